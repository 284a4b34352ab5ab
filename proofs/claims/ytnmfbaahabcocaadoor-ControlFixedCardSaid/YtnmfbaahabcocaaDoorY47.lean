/- Joined by my own program, in build order: Wh. -/
import Derived.Test.YtnmfbaahabcocaaDoorY44
import Derived.Test.YtnmfbaahabcocaaDoorY45
import Derived.Test.YtnmfbaahabcocaaDoorY46
import Derived.Test.YtnmfbaahabcocaaDoorY22
set_option linter.unusedVariables false
set_option linter.unusedSimpArgs false
section
namespace Go.Proofs.YtnmfbaahabcocaaDoor
namespace V
open Go.RowKit G C17
attribute [local go_sem] Oper.semAt_some
theorem ways_any (v1 v2 v3 v4 v5 : Value) (w : World) :
  Calls Tryd.prog 31 #[.agg #[v1, v2, v3, v4, v5]] w fun e w' => e = .returned (.func (.func 42) #[] #[.pointer (some ⟨w.heap.size, 0, none⟩)]) ∧ w' = w.alloc (.cells #[v1, v2, v3, v4, v5] 24) := by
 go_enter Tryd.func31, Tryd.ntmps31
 go_wp2
 go_ret
 exact ⟨rfl, rfl⟩
theorem ways_ok (p : Prc) (M : Mem) (i1 : Nat) (h1 : M i1 = none) : CallE Tryd.prog 31 [.agg (cP p)] M [] (.fn 42 [i1])
  (upd M i1 (some (.box 24 ((cP p).map A.c)))) := by
 have liv : ∀ j, (M j).isSome = true → (upd M i1 (some (.box 24 ((cP p).map A.c))) j).isSome = true := fun j hj => by
  unfold upd; split
  ·rfl
  ·exact hj
 refine ⟨enters_of Tryd.func31 (by kernel_rfl) rfl, fun j hj => ?_, liv, fun hw j o ho i hi => ?_, fun w0 I0 B I w vals hm hv => ?_⟩
 ·simp [A.ids] at hj
  subst hj
  rw [upd_same]; rfl
 ·unfold upd at ho
  split at ho
  ·cases ho; simp [O.ids, A.ids, cP] at hi
  ·exact liv i (hw j o ho i hi)
 ·match vals, hv with
  | [v], ⟨hp, _⟩ =>
   obtain ⟨us, rfl, hus⟩ := hp
   match us, hus with
   | [v1, v2, v3, v4, v5], hus =>
    refine (ways_any v1 v2 v3 v4 v5 w).mono ?_
    rintro e w' ⟨rfl, rfl⟩
    have hb1 : Below w.heap.size w (w.alloc (.cells #[v1, v2, v3, v4, v5] 24)) := (Below.refl _ _).alloc (Nat.le_refl _) _
    obtain ⟨h1', h2', h3', h4', h5', -⟩ := hus
    have hx1 := hm.box (id := i1) h1 (ty := 24) (cells := (cP p).map A.c) (vs := [v1, v2, v3, v4, v5]) ⟨⟨h1', (RC.one h1').1⟩, ⟨h2', (RC.one h2').1⟩, ⟨h3', (RC.one h3').1⟩, ⟨h4', (RC.one h4').1⟩, ⟨h5', (RC.one h5').1⟩, trivial⟩ (fun j hj => by simp [A.ids, cP] at hj)
    have hE1 := hm.ext hb1 (fun _ _ k => k)
    refine ⟨_, _, I, rfl, hx1, hE1, fun j hj _ => ?_, ?_⟩
    ·rw [upd_ne _ _ (fun e => by subst e; simp [h1] at hj)]
    ·show _ = Value.func _ _ _
     simp only [List.map_cons, List.map_nil, upd_same]
theorem binSearch_ok (L : List Nat) (x : Nat) (hs : L.Pairwise (· ≤ ·)) (hl : L.length ≤ 1000000000000) (m : Mem) : COk Tryd.prog 34 [.c (.sl (L.map cN)), .c (.int .i64 x)] m (.tup [(false, [.int .i64 ((L.map fun i : Nat => (i : Int)).countP (· < (x : Int)) : Nat)]), (false, [.bool (decide (x ∈ L))])]) := by
 refine ⟨enters_of Tryd.func34 (by kernel_rfl) rfl, rfl, fun m' _ => ?_⟩
 intro w0 I0 B I w vals hm hv
 match vals, hv with
 | [v, y], ⟨h1, h2, _⟩ =>
  have h1 : RC w I v (.sl (L.map cN)) := h1
  have h2 : RC w I y (.int .i64 x) := h2
  rw [(RC.toInt h2).1]
  rw [← cZ_cast] at h1
  have hwf : ∀ k : Nat, k ≤ 1000000000000 → (Lit.int .i64 (k : Int)).wf = true := fun k hk => by
   rw [lit_wf]; show -9223372036854775808 ≤ (k : Int) ∧ (k : Int) ≤ 9223372036854775807; omega
  have hcnt : (L.map fun i : Nat => (i : Int)).countP (· < (x : Int)) ≤ 1000000000000 := by
   have := List.countP_le_length (p := fun z : Int => decide (z < (x : Int))) (l := L.map fun i : Nat => (i : Int))
   rw [List.length_map] at this
   omega
  obtain ⟨a, cap, rfl, hmx⟩ := rc_len h1
  rw [List.length_map, List.length_map] at hmx ⊢
  by_cases hn : L = []
  ·subst hn
   refine (Tryd.slices_BinarySearch_int_empty a cap x w).mono ?_
   rintro e w' ⟨rfl, rfl⟩
   exact ⟨_, I, rfl, Below.refl _ _, fun _ _ k => k, fun _ _ k => .inl k, [.int .i64 0, .bool false], rfl, ⟨_, rfl, .int rfl⟩, ⟨_, rfl, .bool⟩, trivial⟩
  ·have h0 : 0 < L.length := List.length_pos_iff.2 hn
   obtain ⟨g, o, rfl, -, -⟩ := rc_zat h1 (i := 0) (List.getElem?_eq_getElem (by simpa using h0))
   refine (Tryd.slices_BinarySearch_int g o L.length cap (L.map fun i : Nat => (i : Int)) x w (by simp) (by omega) (fun j hj => ?_) ?_).mono ?_
   ·obtain ⟨g', o', e', hc, -⟩ := rc_zat h1 (i := j) (List.getElem?_eq_getElem hj)
    cases e'
    rw [hc, List.getD_eq_getElem?_getD, List.getElem?_eq_getElem hj]; rfl
   ·rw [List.take_of_length_le (by simp)]
    exact List.Pairwise.map _ (fun a b h => by omega) hs
   ·rintro e w' ⟨rfl, q, rfl⟩
    rw [List.take_of_length_le (by simp)]
    have hm : (L.map fun i : Nat => (i : Int)).contains (x : Int) = decide (x ∈ L) := by
     rw [Bool.eq_iff_iff]
     simp
     exact ⟨fun ⟨a, h, e⟩ => by rwa [show x = a by omega], fun h => ⟨x, h, rfl⟩⟩
    rw [hm]
    exact ⟨_, I, rfl, ⟨rfl, rfl, rfl, Nat.le_refl _, fun _ _ => rfl⟩, fun _ _ k => k, fun _ _ k => .inl k, [.int .i64 _, .bool _], rfl, ⟨_, rfl, .int (hwf _ hcnt)⟩, ⟨_, rfl, .bool⟩, trivial⟩
theorem whole1_ok (n i : Int) (m : Mem) : COk Tryd.prog 30 [.c (.int .i64 i), .rptr [.int .i64 n]] m (.c (.bool (badI n i))) := by
 refine (ok_pure tab_ok Tryd.func30 (by kernel_rfl) rfl rfl (by rfl) (by rfl) (by rfl) (fun R hkeep => ?_) m)
 by_cases h1 : i < 0
 ·repeat (first | refine W.seq ?_ | refine W.block ?_ | refine W.skip ?_ | refine W.exit ?_ | refine W.region tab_ok 0 (by decide) (exec_run (by simp only [exa, beq_self_eq_true, ByteArray.size, Nat.reduceAdd, Nat.reduceLeDiff, Nat.reduceEqDiff, Nat.reduceMul, Int.reduceToNat, reduceIte, Int.reduceLE, Int.reduceNeg, h1]; rfl)) ?_)
  refine W.ret ⟨.inr rfl, by rfl, ?_⟩
  simp only [Tryd.f30, resA, resOne, toT, fin, exa, beq_self_eq_true, ByteArray.size, Nat.reduceAdd, Nat.reduceLeDiff, Nat.reduceEqDiff, Nat.reduceMul, Int.reduceToNat, reduceIte, Int.reduceLE, Int.reduceNeg]
  simp [badI, h1]
 ·repeat (first | refine W.seq ?_ | refine W.block ?_ | refine W.skip ?_ | refine W.exit ?_ | refine W.region tab_ok 0 (by decide) (exec_run (by simp only [exa, beq_self_eq_true, ByteArray.size, Nat.reduceAdd, Nat.reduceLeDiff, Nat.reduceEqDiff, Nat.reduceMul, Int.reduceToNat, reduceIte, Int.reduceLE, Int.reduceNeg, h1]; rfl)) ?_)
  refine W.ret ⟨.inr rfl, by rfl, ?_⟩
  simp only [Tryd.f30, resA, resOne, toT, fin, exa, beq_self_eq_true, ByteArray.size, Nat.reduceAdd, Nat.reduceLeDiff, Nat.reduceEqDiff, Nat.reduceMul, Int.reduceToNat, reduceIte, Int.reduceLE, Int.reduceNeg]
  simp [badI, h1]
noncomputable def wholeA (p : Prc) (u : Nat → Option Nat) : List (Bool × List C) :=
 if okC p.code = true then [(false, [.sl ((gC p.code).map cEd)]), (false, [.sl ((upL p.code.length u (p.code.length + 1)).map cZ)]), (false, [.int .i64 0])] else [(false, [.sl []]), (false, [.sl []]), (false, [.int .i64 110])]
def memW (p : Prc) (L : List (Nat × Nat)) : Mem :=
 upd (upd (upd (upd Mem.nil 1 (some (.box 24 ((cP p).map A.c)))) 5 (some (.box 3 [.c (.int .i64 p.code.length)]))) 7 (some (.box 32 [.own 50]))) 50 (some (.arr 42 2 (L.map cEd)))
def slotW : Nat → A := upd (upd (upd (fun _ => .top) 1 (.ptr 1 0)) 5 (.ptr 5 0)) 7 (.ptr 7 0)
theorem slotW_ids : ∀ t, ∀ j ∈ (slotW t).ids, j ≤ 7 := by
 intro t j hj
 unfold slotW upd at hj
 repeat' (split at hj)
 all_goals (simp [A.ids] at hj)
 all_goals omega
theorem sn_top {n : Nat} : ∀ t, n ≤ t → (fun _ : Nat => A.top) t = A.top := fun _ _ => rfl
theorem sn_upd {n k : Nat} {s : Nat → A} {x : A} (h : ∀ t, n ≤ t → s t = A.top) (hk : k < n) : ∀ t, n ≤ t → upd s k x t = A.top := fun t ht => by
 rw [upd_ne _ _ (by omega)]; exact h t ht
theorem mle_some {m m' : Mem} (h : MLe m m') : ∀ j o, m' j = some o → m j = some o := fun j o ho => by
 rcases h j with e | e
 ·rw [e] at ho; cases ho
 ·rw [← e]; exact ho
set_option maxHeartbeats 4000000 in
theorem whole_ok (p : Prc) (u : Nat → Option Nat) (T : okC p.code = true → Tree (turnP (gC p.code)) p.code.length u) (m : Mem) : COk Tryd.prog 17 [.agg (cP p)] m (.tup (wholeA p u)) := by
 obtain ⟨cls, name, params, regs, code⟩ := p
 simp only at T ⊢
 have hcp : cP ⟨cls, name, params, regs, code⟩ = [.str cls, .str name, .int .i64 params, .int .i64 regs, .sl (code.map cIns)] := rfl
 refine (ok_pureM tab_ok Tryd.func17 (by kernel_rfl) rfl rfl (by rfl) (by rfl) (by rfl) (fun R hkeep => ?_) m)
 (repeat (first | refine W.seq ?_ | refine W.block ?_ | refine W.skip ?_ | refine W.exit ?_))
 refine W.region tab_ok 0 (by decide) (exec_run (by simp only [exa, beq_self_eq_true, ByteArray.size, Nat.reduceAdd, Nat.reduceLeDiff, Nat.reduceEqDiff, Nat.reduceMul, Int.reduceToNat, reduceIte, Int.reduceLE, Int.reduceNeg, hcp, List.map_cons, List.map_nil]; rfl)) ?_
 (repeat (first | refine W.seq ?_ | refine W.block ?_ | refine W.skip ?_ | refine W.exit ?_))
 refine W.region tab_ok 0 (by decide) (exec_run (by simp only [exa, beq_self_eq_true, ByteArray.size, Nat.reduceAdd, Nat.reduceLeDiff, Nat.reduceEqDiff, Nat.reduceMul, Int.reduceToNat, reduceIte, Int.reduceLE, Int.reduceNeg, List.length_map]; rfl)) ?_
 have nay : okC code = false → wholeA ⟨cls, name, params, regs, code⟩ u = [(false, [.sl []]), (false, [.sl []]), (false, [.int .i64 110])] := fun h => by unfold wholeA; simp only; rw [if_neg (by simp [h])]
 by_cases h0 : code.length = 0
 ·have q0 : ((code.length : Int) = 0) = True := eq_true (by omega)
  have hno : okC code = false := by unfold okC; rw [h0]; rfl
  repeat (first | refine W.seq ?_ | refine W.block ?_ | refine W.skip ?_ | refine W.exit ?_ | refine W.region tab_ok 0 (by decide) (exec_run (by simp only [exa, beq_self_eq_true, ByteArray.size, Nat.reduceAdd, Nat.reduceLeDiff, Nat.reduceEqDiff, Nat.reduceMul, Int.reduceToNat, reduceIte, Int.reduceLE, Int.reduceNeg, q0, decide_true]; rfl)) ?_)
  refine W.cond rfl (fun _ => ?_) (fun h => absurd h (by simp))
  repeat (first | refine W.seq ?_ | refine W.block ?_ | refine W.skip ?_ | refine W.exit ?_ | refine W.region tab_ok 0 (by decide) (exec_run (by simp only [exa, beq_self_eq_true, ByteArray.size, Nat.reduceAdd, Nat.reduceLeDiff, Nat.reduceEqDiff, Nat.reduceMul, Int.reduceToNat, reduceIte, Int.reduceLE, Int.reduceNeg]; rfl)) ?_)
  refine W.ret ⟨.inr rfl, .inl ⟨rfl, ?_⟩⟩
  simp only [Tryd.f17, resA, resOne, toT, fin, exa, beq_self_eq_true, ByteArray.size, Nat.reduceAdd, Nat.reduceLeDiff, Nat.reduceEqDiff, Nat.reduceMul, Int.reduceToNat, reduceIte, Int.reduceLE, Int.reduceNeg, nay hno]
 have q0 : ((code.length : Int) = 0) = False := eq_false (by omega)
 by_cases h1 : 2000 < code.length
 ·have q1 : ((2000 : Int) < (code.length : Int)) = True := eq_true (by omega)
  have hno : okC code = false := by unfold okC; rw [decide_eq_false (show ¬ code.length ≤ 2000 by omega)]; simp
  repeat (first | refine W.seq ?_ | refine W.block ?_ | refine W.skip ?_ | refine W.exit ?_ | refine W.region tab_ok 0 (by decide) (exec_run (by simp only [exa, beq_self_eq_true, ByteArray.size, Nat.reduceAdd, Nat.reduceLeDiff, Nat.reduceEqDiff, Nat.reduceMul, Int.reduceToNat, reduceIte, Int.reduceLE, Int.reduceNeg, q0, q1, decide_true, decide_false]; rfl)) ?_)
  refine W.cond rfl (fun _ => ?_) (fun h => absurd h (by simp))
  repeat (first | refine W.seq ?_ | refine W.block ?_ | refine W.skip ?_ | refine W.exit ?_ | refine W.region tab_ok 0 (by decide) (exec_run (by simp only [exa, beq_self_eq_true, ByteArray.size, Nat.reduceAdd, Nat.reduceLeDiff, Nat.reduceEqDiff, Nat.reduceMul, Int.reduceToNat, reduceIte, Int.reduceLE, Int.reduceNeg]; rfl)) ?_)
  refine W.ret ⟨.inr rfl, .inl ⟨rfl, ?_⟩⟩
  simp only [Tryd.f17, resA, resOne, toT, fin, exa, beq_self_eq_true, ByteArray.size, Nat.reduceAdd, Nat.reduceLeDiff, Nat.reduceEqDiff, Nat.reduceMul, Int.reduceToNat, reduceIte, Int.reduceLE, Int.reduceNeg, nay hno]
 have q1 : ((2000 : Int) < (code.length : Int)) = False := eq_false (by omega)
 repeat (first | refine W.seq ?_ | refine W.block ?_ | refine W.skip ?_ | refine W.exit ?_ | refine W.region tab_ok 0 (by decide) (exec_run (by simp only [exa, beq_self_eq_true, ByteArray.size, Nat.reduceAdd, Nat.reduceLeDiff, Nat.reduceEqDiff, Nat.reduceMul, Int.reduceToNat, reduceIte, Int.reduceLE, Int.reduceNeg, q0, q1, decide_true, decide_false]; rfl)) ?_)
 refine W.cond rfl (fun h => absurd h (by simp)) (fun _ => ?_)
 repeat (first | refine W.seq ?_ | refine W.block ?_ | refine W.skip ?_ | refine W.exit ?_ | refine W.region tab_ok 0 (by decide) (exec_run (by simp only [exa, beq_self_eq_true, ByteArray.size, Nat.reduceAdd, Nat.reduceLeDiff, Nat.reduceEqDiff, Nat.reduceMul, Int.reduceToNat, reduceIte, Int.reduceLE, Int.reduceNeg, List.length_map]; rfl)) ?_)
 refine W.loop (ι := Nat) (fun k => ⟨upd (upd (upd (upd (fun _ => .top) 1 (.ptr 1 0)) 5 (.ptr 5 0)) 27 (.c (.int .i64 code.length))) 28 (.c (.int .i64 k)),
  upd (upd Mem.nil 1 (some (.box 24 [.c (.str cls), .c (.str name), .c (.int .i64 params), .c (.int .i64 regs), .c (.sl (code.map cIns))]))) 5 (some (.box 3 [.c (.int .i64 code.length)]))⟩)
  (fun k => k ≤ code.length ∧ (List.range k).all (fun i => !(nx code i).any (outI code.length)) = true) (fun k => code.length - k) 0 ?start ⟨Nat.zero_le _, rfl⟩ ?round
 case start =>
  refine le_mk ?sle ?mle ?swf ?mwf (kept_not hkeep) (by rfl)
  case swf => repeat (first | exact swf_top _ | refine swf_upd ?_ (by simp [A.ids, upd_app]))
  case mwf => repeat (first | exact mwf_nil _ | refine mwf_upd ?_ (by simp [A.ids, O.ids, upd_app]))
  case mle => repeat (first | exact mle_nil _ | exact mle_refl _ | refine mle_upd ?_ (by first | rfl | (simp only [upd_app, killM_app, O.kill, A.kill, Nat.reduceEqDiff, reduceIte, Option.map_some, Option.map_none, List.map_cons, List.map_nil]; done)))
  case sle => repeat (first | exact sle_top _ | exact sle_refl _ | refine sle_upd ?_ (by first | rfl | (simp only [upd_app, killS_app, A.kill, entry_zero, entry_succ, Nat.reduceEqDiff, reduceIte]; done)))
 case round =>
  rintro k ⟨hkl, hall⟩
  repeat (first | refine W.seq ?_ | refine W.block ?_ | refine W.skip ?_ | refine W.exit ?_ | refine W.region tab_ok 0 (by decide) (exec_run (by simp only [exa, beq_self_eq_true, ByteArray.size, Nat.reduceAdd, Nat.reduceLeDiff, Nat.reduceEqDiff, Nat.reduceMul, Int.reduceToNat, reduceIte, Int.reduceLE, Int.reduceNeg]; rfl)) ?_)
  refine W.cond rfl ?_ ?_
  ·intro hlt
   simp only [decide_eq_true_eq, Int.ofNat_lt] at hlt
   repeat (first | refine W.seq ?_ | refine W.block ?_ | refine W.skip ?_ | refine W.exit ?_ | refine W.region tab_ok 0 (by decide) (exec_run (by simp only [exa, beq_self_eq_true, ByteArray.size, Nat.reduceAdd, Nat.reduceLeDiff, Nat.reduceEqDiff, Nat.reduceMul, Int.reduceToNat, reduceIte, Int.reduceLE, Int.reduceNeg]; rfl)) ?_)
   refine W.regionK tab_ok 0 (by decide) ?_
   refine runk_split 2 (by simp only [exa, beq_self_eq_true, ByteArray.size, Nat.reduceAdd, Nat.reduceLeDiff, Nat.reduceEqDiff, Nat.reduceMul, Int.reduceToNat, reduceIte, Int.reduceLE, Int.reduceNeg, List.map_cons, List.map_nil]; rfl) ?_
   refine runk_call rfl rfl rfl rfl rfl (by simp) (cvs_cons cv_refl (cvs_cons cv_refl cvs_nil)) (irNext_ok ⟨cls, name, params, regs, code⟩ k (by show code.length ≤ _; omega) (by show k ≤ code.length; omega) _) ?_
   refine runk_split 1 (by simp only [exa, beq_self_eq_true, ByteArray.size, Nat.reduceAdd, Nat.reduceLeDiff, Nat.reduceEqDiff, Nat.reduceMul, Int.reduceToNat, reduceIte, Int.reduceLE, Int.reduceNeg]; rfl) ?_
   refine runk_callR rfl rfl rfl rfl rfl (by simp) (cvrs_cons cvr_refl (cvrs_cons (cvr_fn (caps_one rfl rfl)) cvrs_nil)) (by rfl) (by rfl) (anyInt_ok (nx code k) 30 [[.int .i64 code.length]] (badI code.length) (by have := nx_len code k; omega) (fun x _ m => whole1_ok code.length x m)) ?_
   refine runk_exec (by simp only [exa, beq_self_eq_true, ByteArray.size, Nat.reduceAdd, Nat.reduceLeDiff, Nat.reduceEqDiff, Nat.reduceMul, Int.reduceToNat, reduceIte, Int.reduceLE, Int.reduceNeg]; rfl) ?_
   refine W.cond rfl ?_ ?_
   ·intro hb
    have hno : okC code = false := by
     unfold okC
     have : ((List.range code.length).all fun i => !(nx code i).any (outI code.length)) = false := by
      rw [List.all_eq_false]
      exact ⟨k, List.mem_range.2 hlt, by rw [show (nx code k).any (outI code.length) = true from hb]; decide⟩
     rw [this]; simp
    repeat (first | refine W.seq ?_ | refine W.block ?_ | refine W.skip ?_ | refine W.exit ?_ | refine W.region tab_ok 0 (by decide) (exec_run (by simp only [exa, beq_self_eq_true, ByteArray.size, Nat.reduceAdd, Nat.reduceLeDiff, Nat.reduceEqDiff, Nat.reduceMul, Int.reduceToNat, reduceIte, Int.reduceLE, Int.reduceNeg]; rfl)) ?_)
    refine W.ret ⟨.inr rfl, .inl ⟨rfl, ?_⟩⟩
    simp only [Tryd.f17, resA, resOne, toT, fin, exa, beq_self_eq_true, ByteArray.size, Nat.reduceAdd, Nat.reduceLeDiff, Nat.reduceEqDiff, Nat.reduceMul, Int.reduceToNat, reduceIte, Int.reduceLE, Int.reduceNeg, nay hno]
   ·intro hb
    repeat (first | refine W.seq ?_ | refine W.block ?_ | refine W.skip ?_ | refine W.exit ?_ | refine W.region tab_ok 0 (by decide) (exec_run (by simp only [exa, beq_self_eq_true, ByteArray.size, Nat.reduceAdd, Nat.reduceLeDiff, Nat.reduceEqDiff, Nat.reduceMul, Int.reduceToNat, reduceIte, Int.reduceLE, Int.reduceNeg]; rfl)) ?_)
    refine ⟨k + 1, ⟨hlt, ?_⟩, by omega, ?_⟩
    ·rw [List.range_succ, List.all_append, hall]
     have : (nx code k).any (outI code.length) = false := hb
     simp [this]
    refine le_mk ?sle ?mle ?swf ?mwf (kept_not hkeep) (by rfl)
    case swf => repeat (first | exact swf_top _ | refine swf_upd ?_ (by simp [A.ids, upd_app, wrap_succ (show k + 1 < 9223372036854775808 by omega)]))
    case mwf => repeat (first | exact mwf_nil _ | refine mwf_upd ?_ (by simp [A.ids, O.ids, upd_app, wrap_succ (show k + 1 < 9223372036854775808 by omega)]))
    case mle => repeat (first | exact mle_nil _ | exact mle_refl _ | refine mle_upd ?_ (by first | rfl | (simp only [upd_app, killM_app, O.kill, A.kill, Nat.reduceEqDiff, reduceIte, Option.map_some, Option.map_none, List.map_cons, List.map_nil, wrap_succ (show k + 1 < 9223372036854775808 by omega)]; done)))
    case sle => repeat (first | exact sle_top _ | exact sle_refl _ | refine sle_upd ?_ (by first | rfl | (simp only [upd_app, killS_app, A.kill, entry_zero, entry_succ, Nat.reduceEqDiff, reduceIte, wrap_succ (show k + 1 < 9223372036854775808 by omega)]; done)))
  ·intro hge
   simp only [decide_eq_false_iff_not, Int.ofNat_lt] at hge
   obtain rfl : k = code.length := by omega
   have hok : okC code = true := by
    unfold okC
    rw [hall, decide_eq_true (show 1 ≤ code.length by omega), decide_eq_true (show code.length ≤ 2000 by omega)]; rfl
   have yea : wholeA ⟨cls, name, params, regs, code⟩ u = [(false, [.sl ((gC code).map cEd)]), (false, [.sl ((upL code.length u (code.length + 1)).map cZ)]), (false, [.int .i64 0])] := by unfold wholeA; simp only; rw [if_pos hok]
   rw [yea]
   replace T := T hok
   have hG : ∀ L, GoodM R.keep slotW 1000 1002 1003 (memW ⟨cls, name, params, regs, code⟩ L) := fun L => by
    refine ⟨?_, rfl, rfl, rfl, ?_, kept_not hkeep⟩
    ·unfold memW
     show MWf _ _
     (repeat (first | exact mwf_nil _ | refine mwf_upd ?_ (by simp [A.ids, O.ids, upd_app])))
    ·show SWf _ _
     unfold memW slotW
     (repeat (first | exact swf_top _ | refine swf_upd ?_ (by simp [A.ids, upd_app])))
   repeat (first | refine W.seq ?_ | refine W.block ?_ | refine W.skip ?_ | refine W.exit ?_ | refine W.region tab_ok 0 (by decide) (exec_run (by simp only [exa, beq_self_eq_true, ByteArray.size, Nat.reduceAdd, Nat.reduceLeDiff, Nat.reduceEqDiff, Nat.reduceMul, Int.reduceToNat, reduceIte, Int.reduceLE, Int.reduceNeg]; rfl)) ?_)
   refine W.newRowBox true 7 0 50 42 2 rfl rfl rfl ?_
   refine W.regionK tab_ok 0 (by decide) ?_
   refine runk_split 1 (by simp only [exa, beq_self_eq_true, ByteArray.size, Nat.reduceAdd, Nat.reduceLeDiff, Nat.reduceEqDiff, Nat.reduceMul, Int.reduceToNat, reduceIte, Int.reduceLE, Int.reduceNeg, List.map_cons, List.map_nil, hcp]; rfl) ?_
   refine runk_call0 rfl rfl rfl rfl rfl rfl (by simp) (cvs_cons cv_refl cvs_nil) (ways_ok ⟨cls, name, params, regs, code⟩ _ 1000 rfl) ?_
   refine runk_exec (by simp only [exa, beq_self_eq_true, ByteArray.size, Nat.reduceAdd, Nat.reduceLeDiff, Nat.reduceEqDiff, Nat.reduceMul, Int.reduceToNat, reduceIte, Int.reduceLE, Int.reduceNeg]; rfl) ?_
   (repeat (first | refine W.seq ?_ | refine W.block ?_ | refine W.skip ?_ | refine W.exit ?_))
   refine W.rangeSeq ((e1 code code.length).map cEd) 1000 1002 1003 slotW (fun k => memW ⟨cls, name, params, regs, code⟩ ((e1 code code.length).take k)) (fun _ => True) (ways1_v ⟨cls, name, params, regs, code⟩ hok) rfl rfl (by decide) rfl rfl (by decide) trivial rfl ?sle ?sn ?m0 ?good ?rnd ?done
   case sle =>
    unfold slotW
    (repeat (first | exact sle_top _ | exact sle_refl _ | refine sle_upd ?_ (by first | rfl | (simp only [upd_app, entry_zero, entry_succ, Nat.reduceEqDiff, reduceIte]; done))))
   case sn =>
    unfold slotW
    (repeat (first | exact sn_top | refine sn_upd ?_ (by decide)))
   case m0 =>
    refine mle_some ?_
    unfold memW
    (repeat (first | exact mle_nil _ | exact mle_refl _ | refine mle_upd ?_ (by first | rfl | (simp only [upd_app, killM_app, Nat.reduceEqDiff, reduceIte, List.take_zero, List.map_nil, List.map_cons, cP]; done))))
   case good => exact fun k _ => hG _
   case rnd =>
    intro R' l hk' k x x1 xL _ hitem
    obtain ⟨⟨f, t⟩, hx⟩ : ∃ y, (e1 code code.length)[k]? = some y ∧ x = cEd y := by
     rw [List.getElem?_map] at hitem
     cases hy : (e1 code code.length)[k]? with
     | none => rw [hy] at hitem; cases hitem
     | some y => rw [hy] at hitem; exact ⟨y, rfl, (Option.some.inj hitem).symm⟩
    obtain ⟨hx, rfl⟩ := hx
    have hkl : k < (e1 code code.length).length := (List.getElem?_eq_some_iff.1 hx).1
    have hel := e1_len code code.length
    have hn50 : ¬ R'.keep 50 := fun h => by
     rw [hk', hkeep] at h
     rcases h with h | ⟨t, h⟩ | h
     ·exact h
     ·have := slotW_ids t 50 h; omega
     ·omega
    repeat (first | refine WI.seq ?_ | refine WI.block ?_ | refine WI.skip ?_ | refine WI.exit ?_ | refine WI.region tab_ok 0 (by decide) (by kernel_rfl) (exec_run (by simp only [exa, beq_self_eq_true, ByteArray.size, Nat.reduceAdd, Nat.reduceLeDiff, Nat.reduceEqDiff, Nat.reduceMul, Int.reduceToNat, reduceIte, Int.reduceLE, Int.reduceNeg, fullM, memW, slotW, cEd]; rfl)) ?_)
    refine ⟨rfl, fun xL' => ?_⟩
    refine WI.block ?_
    refine WI.regionK tab_ok 0 (by decide) (by kernel_rfl) ?_
    refine runk_split 3 (by simp only [exa, beq_self_eq_true, ByteArray.size, Nat.reduceAdd, Nat.reduceLeDiff, Nat.reduceEqDiff, Nat.reduceMul, Int.reduceToNat, reduceIte, Int.reduceLE, Int.reduceNeg, fullM, memW, slotW, cEd]; rfl) ?_
    refine runk_append tab_ok 50 rfl rfl rfl rfl rfl rfl rfl rfl (by first | rfl | (simp only [exa, beq_self_eq_true, ByteArray.size, Nat.reduceAdd, Nat.reduceLeDiff, Nat.reduceEqDiff, Nat.reduceMul, Int.reduceToNat, reduceIte, Int.reduceLE, Int.reduceNeg, fullM, memW, slotW, cEd]; rfl)) rfl rfl rfl rfl hn50 (by intro z hz; simp [cEd] at hz; obtain ⟨-, -, -, rfl⟩ := hz; rfl) (by simp only [List.length_map, List.length_cons, List.length_nil]; have := List.length_take_le k (e1 code code.length); omega) (by decide) ?_
    refine runk_exec (by simp only [exa, beq_self_eq_true, ByteArray.size, Nat.reduceAdd, Nat.reduceLeDiff, Nat.reduceEqDiff, Nat.reduceMul, Int.reduceToNat, reduceIte, Int.reduceLE, Int.reduceNeg, fullM, memW, slotW]; rfl) ?_
    refine ⟨trivial, fun j => j, Le.toT ?_⟩
    simp only [fullM, memW]
    refine le_mk ?sle ?mle ?swf ?mwf (fun j hj => fullM_keep (hG _) hj) (by rfl)
    case swf => repeat (first | exact swf_top _ | refine swf_upd ?_ (by simp [A.ids, upd_app, fullM, memW, List.take_add_one, hx, Option.toList_some, List.map_append, List.map_cons, List.map_nil, cEd]))
    case mwf => repeat (first | exact mwf_nil _ | refine mwf_upd ?_ (by simp [A.ids, O.ids, upd_app, fullM, memW, List.take_add_one, hx, Option.toList_some, List.map_append, List.map_cons, List.map_nil, cEd]))
    case mle => repeat (first | exact mle_nil _ | exact mle_refl _ | refine mle_upd ?_ (by first | rfl | (simp only [upd_app, killM_app, O.kill, A.kill, Nat.reduceEqDiff, reduceIte, Option.map_some, Option.map_none, List.map_cons, List.map_nil, fullM, memW, List.take_add_one, hx, Option.toList_some, List.map_append, List.map_cons, List.map_nil, cEd]; done)))
    case sle => repeat (first | exact sle_top _ | exact sle_refl _ | refine sle_upd ?_ (by first | rfl | (simp only [upd_app, killS_app, A.kill, entry_zero, entry_succ, Nat.reduceEqDiff, reduceIte, fullM, memW, List.take_add_one, hx, Option.toList_some, List.map_append, List.map_cons, List.map_nil, cEd]; done)))
   case done =>
    intro _ b
    have hel := e1_len code code.length
    have hlt1 := e1_lt hok
    (repeat (first | refine W.seq ?_ | refine W.block ?_ | refine W.skip ?_ | refine W.exit ?_))
    rw [List.length_map, List.take_length]
    have hE1 : ∀ e ∈ swapE (e1 code code.length), e.1 < code.length + 1 ∧ e.2 < code.length + 1 := fun e he => by
     have := hlt1 _ (mem_swap.1 (show (e.1, e.2) ∈ _ from he))
     simp only at this
     omega
    have hwn : IntKind.i64.wrap ((code.length : Int) + 1) = ((code.length + 1 : Nat) : Int) := wrap_succ (show code.length + 1 < 9223372036854775808 by omega)
    refine W.regionDK tab_ok 0 follows_mixed (by kernel_rfl) (by decide) ?_
    refine runk_split 3 (by simp only [exa, beq_self_eq_true, ByteArray.size, Nat.reduceAdd, Nat.reduceLeDiff, Nat.reduceEqDiff, Nat.reduceMul, Int.reduceToNat, reduceIte, Int.reduceLE, Int.reduceNeg, doneS, doneM, DID, memW, slotW, hwn]; rfl) ?_
    refine runk_call rfl rfl rfl rfl rfl (by simp) (cvs_cons (cv_own rfl) cvs_nil) (turnN_ok (e1 code code.length) (by omega) _) ?_
    refine runk_split 2 (by simp only [exa, beq_self_eq_true, ByteArray.size, Nat.reduceAdd, Nat.reduceLeDiff, Nat.reduceEqDiff, Nat.reduceMul, Int.reduceToNat, reduceIte, Int.reduceLE, Int.reduceNeg, doneS, doneM, DID, memW, slotW, hwn]; rfl) ?_
    refine runk_call rfl rfl rfl rfl rfl (by simp) (cvs_cons cv_refl (cvs_cons cv_refl (cvs_cons cv_refl cvs_nil))) (reachG_ok (code.length + 1) (by omega) (swapE (e1 code code.length)) (by simp [swapE]; omega) hE1 [code.length] (by simp) (fun i hi => by simp at hi; omega) _) ?_
    refine runk_exec (by simp only [exa, beq_self_eq_true, ByteArray.size, Nat.reduceAdd, Nat.reduceLeDiff, Nat.reduceEqDiff, Nat.reduceMul, Int.reduceToNat, reduceIte, Int.reduceLE, Int.reduceNeg, doneS, doneM, DID, memW, slotW]; rfl) ?_
    repeat (first | refine W.seq ?_ | refine W.block ?_ | refine W.skip ?_ | refine W.exit ?_ | refine W.region tab_ok 0 (by decide) (exec_run (by simp only [exa, beq_self_eq_true, ByteArray.size, Nat.reduceAdd, Nat.reduceLeDiff, Nat.reduceEqDiff, Nat.reduceMul, Int.reduceToNat, reduceIte, Int.reduceLE, Int.reduceNeg, doneS, doneM, DID, memW, slotW]; rfl)) ?_)
    have hR : ∀ i, i < code.length → (i ∈ reachL (swapE (e1 code code.length)) [code.length] (code.length + 1) ↔ G.Rch (turnP (e1 code code.length)) [code.length] i) := fun i hi => by
     unfold reachL
     rw [List.mem_filter, List.mem_range, reachB_iff]
     exact ⟨fun h => h.2, fun h => ⟨by omega, h⟩⟩
    have hsd : (reachL (swapE (e1 code code.length)) [code.length] (code.length + 1)).Pairwise (· ≤ ·) := by
     unfold reachL
     exact (List.pairwise_lt_range.filter _).imp (fun h => Nat.le_of_lt h)
    have hRl : (reachL (swapE (e1 code code.length)) [code.length] (code.length + 1)).length ≤ code.length + 1 := by
     unfold reachL
     refine Nat.le_trans (List.length_filter_le _ _) (by simp)
    generalize reachL (swapE (e1 code code.length)) [code.length] (code.length + 1) = Rk at *
    refine W.loop (ι := Nat) (fun k => ⟨upd (upd (upd (upd (upd (doneS (fun _ => .top) b 1002) 5 (.ptr 5 0)) 7 (.ptr 7 0)) 9 (.c (.sl (Rk.map cN)))) 54 (.c (.int .i64 code.length))) 55 (.c (.int .i64 k)),
     doneM (memW ⟨cls, name, params, regs, code⟩ (e1 code code.length ++ e2 code k)) 1002⟩) (fun k => k ≤ code.length) (fun k => code.length - k) 0 ?start2 (Nat.zero_le _) ?round2
    case start2 =>
     simp only [doneS, doneM, memW, DID]
     refine le_mk ?sle ?mle ?swf ?mwf (kept_not hkeep) (by rfl)
     case swf => repeat (first | exact swf_top _ | refine swf_upd ?_ (by simp [A.ids, upd_app, show e2 code 0 = [] from rfl, List.append_nil]))
     case mwf => repeat (first | exact mwf_nil _ | refine mwf_upd ?_ (by simp [A.ids, O.ids, upd_app, show e2 code 0 = [] from rfl, List.append_nil]))
     case mle => repeat (first | exact mle_nil _ | exact mle_refl _ | refine mle_upd ?_ (by first | rfl | (simp only [upd_app, killM_app, O.kill, A.kill, Nat.reduceEqDiff, reduceIte, Option.map_some, Option.map_none, List.map_cons, List.map_nil, show e2 code 0 = [] from rfl, List.append_nil]; done)))
     case sle => repeat (first | exact sle_top _ | exact sle_refl _ | refine sle_upd ?_ (by first | rfl | (simp only [upd_app, killS_app, A.kill, entry_zero, entry_succ, Nat.reduceEqDiff, reduceIte, show e2 code 0 = [] from rfl, List.append_nil]; done)))
    case round2 =>
     intro k hkl
     repeat (first | refine W.seq ?_ | refine W.block ?_ | refine W.skip ?_ | refine W.exit ?_ | refine W.region tab_ok 0 (by decide) (exec_run (by simp only [exa, beq_self_eq_true, ByteArray.size, Nat.reduceAdd, Nat.reduceLeDiff, Nat.reduceEqDiff, Nat.reduceMul, Int.reduceToNat, reduceIte, Int.reduceLE, Int.reduceNeg, doneS, doneM, DID, memW]; rfl)) ?_)
     refine W.cond rfl ?_ ?_
     ·intro hlt
      simp only [decide_eq_true_eq, Int.ofNat_lt] at hlt
      have hl2 := lost_len code k
      have hl3 : (e2 code k).length ≤ k := by unfold e2; rw [List.length_map]; exact hl2
      repeat (first | refine W.seq ?_ | refine W.block ?_ | refine W.skip ?_ | refine W.exit ?_ | refine W.region tab_ok 0 (by decide) (exec_run (by simp only [exa, beq_self_eq_true, ByteArray.size, Nat.reduceAdd, Nat.reduceLeDiff, Nat.reduceEqDiff, Nat.reduceMul, Int.reduceToNat, reduceIte, Int.reduceLE, Int.reduceNeg, doneS, doneM, DID, memW]; rfl)) ?_)
      refine W.regionK tab_ok 0 (by decide) ?_
      refine runk_split 2 (by simp only [exa, beq_self_eq_true, ByteArray.size, Nat.reduceAdd, Nat.reduceLeDiff, Nat.reduceEqDiff, Nat.reduceMul, Int.reduceToNat, reduceIte, Int.reduceLE, Int.reduceNeg, doneS, doneM, DID, memW]; rfl) ?_
      refine runk_call rfl rfl rfl rfl rfl (by simp) (cvs_cons cv_refl (cvs_cons cv_refl cvs_nil)) (binSearch_ok Rk k hsd (by omega) _) ?_
      refine runk_exec (by simp only [exa, beq_self_eq_true, ByteArray.size, Nat.reduceAdd, Nat.reduceLeDiff, Nat.reduceEqDiff, Nat.reduceMul, Int.reduceToNat, reduceIte, Int.reduceLE, Int.reduceNeg, doneS, doneM, DID, memW]; rfl) ?_
      repeat (first | refine W.seq ?_ | refine W.block ?_ | refine W.skip ?_ | refine W.exit ?_ | refine W.region tab_ok 0 (by decide) (exec_run (by simp only [exa, beq_self_eq_true, ByteArray.size, Nat.reduceAdd, Nat.reduceLeDiff, Nat.reduceEqDiff, Nat.reduceMul, Int.reduceToNat, reduceIte, Int.reduceLE, Int.reduceNeg, doneS, doneM, DID, memW]; rfl)) ?_)
      refine W.cond rfl ?_ ?_
      ·intro hno
       have hno : ¬ G.Rch (turnP (e1 code code.length)) [code.length] k := fun h => by
        rw [decide_eq_true ((hR k hlt).2 h)] at hno; cases hno
       have hnx : e2 code (k + 1) = e2 code k ++ [(k, code.length)] := by
        unfold e2 lost
        rw [List.range_succ, List.filter_append, List.map_append]
        congr 1
        simp [hno]
       (repeat (first | refine W.seq ?_ | refine W.block ?_ | refine W.skip ?_ | refine W.exit ?_))
       refine W.regionK tab_ok 0 (by decide) ?_
       refine runk_split 5 (by simp only [exa, beq_self_eq_true, ByteArray.size, Nat.reduceAdd, Nat.reduceLeDiff, Nat.reduceEqDiff, Nat.reduceMul, Int.reduceToNat, reduceIte, Int.reduceLE, Int.reduceNeg, doneS, doneM, DID, memW]; rfl) ?_
       refine runk_append tab_ok 50 rfl rfl rfl rfl rfl rfl rfl rfl (by first | rfl | (simp only [exa, beq_self_eq_true, ByteArray.size, Nat.reduceAdd, Nat.reduceLeDiff, Nat.reduceEqDiff, Nat.reduceMul, Int.reduceToNat, reduceIte, Int.reduceLE, Int.reduceNeg, doneS, doneM, DID, memW]; rfl)) rfl rfl rfl rfl (nokeep hkeep) (by intro z hz; simp at hz; obtain ⟨-, -, -, rfl⟩ := hz; rfl) (by simp only [List.length_map, List.length_append, List.length_cons, List.length_nil]; omega) (by decide) ?_
       refine runk_exec (by simp only [exa, beq_self_eq_true, ByteArray.size, Nat.reduceAdd, Nat.reduceLeDiff, Nat.reduceEqDiff, Nat.reduceMul, Int.reduceToNat, reduceIte, Int.reduceLE, Int.reduceNeg, doneS, doneM, DID, memW]; rfl) ?_
       repeat (first | refine W.seq ?_ | refine W.block ?_ | refine W.skip ?_ | refine W.exit ?_ | refine W.region tab_ok 0 (by decide) (exec_run (by simp only [exa, beq_self_eq_true, ByteArray.size, Nat.reduceAdd, Nat.reduceLeDiff, Nat.reduceEqDiff, Nat.reduceMul, Int.reduceToNat, reduceIte, Int.reduceLE, Int.reduceNeg, doneS, doneM, DID, memW]; rfl)) ?_)
       refine ⟨k + 1, hlt, by omega, ?_⟩
       simp only [doneS, doneM, memW, DID]
       refine le_mk ?sle ?mle ?swf ?mwf (kept_not hkeep) (by rfl)
       case swf => repeat (first | exact swf_top _ | refine swf_upd ?_ (by simp [A.ids, upd_app, wrap_succ (show k + 1 < 9223372036854775808 by omega), hnx, List.map_append, List.map_cons, List.map_nil, cEd, List.append_assoc]))
       case mwf => repeat (first | exact mwf_nil _ | refine mwf_upd ?_ (by simp [A.ids, O.ids, upd_app, wrap_succ (show k + 1 < 9223372036854775808 by omega), hnx, List.map_append, List.map_cons, List.map_nil, cEd, List.append_assoc]))
       case mle => repeat (first | exact mle_nil _ | exact mle_refl _ | refine mle_upd ?_ (by first | rfl | (simp only [upd_app, killM_app, O.kill, A.kill, Nat.reduceEqDiff, reduceIte, Option.map_some, Option.map_none, List.map_cons, List.map_nil, wrap_succ (show k + 1 < 9223372036854775808 by omega), hnx, List.map_append, List.map_cons, List.map_nil, cEd, List.append_assoc]; done)))
       case sle => repeat (first | exact sle_top _ | exact sle_refl _ | refine sle_upd ?_ (by first | rfl | (simp only [upd_app, killS_app, A.kill, entry_zero, entry_succ, Nat.reduceEqDiff, reduceIte, wrap_succ (show k + 1 < 9223372036854775808 by omega), hnx, List.map_append, List.map_cons, List.map_nil, cEd, List.append_assoc]; done)))
      ·intro hyes
       have hyes : G.Rch (turnP (e1 code code.length)) [code.length] k := by
        refine (hR k hlt).1 (Classical.byContradiction fun h => ?_)
        rw [decide_eq_false h] at hyes; cases hyes
       have hnx : e2 code (k + 1) = e2 code k := by
        unfold e2 lost
        rw [List.range_succ, List.filter_append, List.map_append]
        simp [hyes]
       repeat (first | refine W.seq ?_ | refine W.block ?_ | refine W.skip ?_ | refine W.exit ?_ | refine W.region tab_ok 0 (by decide) (exec_run (by simp only [exa, beq_self_eq_true, ByteArray.size, Nat.reduceAdd, Nat.reduceLeDiff, Nat.reduceEqDiff, Nat.reduceMul, Int.reduceToNat, reduceIte, Int.reduceLE, Int.reduceNeg, doneS, doneM, DID, memW]; rfl)) ?_)
       refine ⟨k + 1, hlt, by omega, ?_⟩
       simp only [doneS, doneM, memW, DID]
       refine le_mk ?sle ?mle ?swf ?mwf (kept_not hkeep) (by rfl)
       case swf => repeat (first | exact swf_top _ | refine swf_upd ?_ (by simp [A.ids, upd_app, wrap_succ (show k + 1 < 9223372036854775808 by omega), hnx]))
       case mwf => repeat (first | exact mwf_nil _ | refine mwf_upd ?_ (by simp [A.ids, O.ids, upd_app, wrap_succ (show k + 1 < 9223372036854775808 by omega), hnx]))
       case mle => repeat (first | exact mle_nil _ | exact mle_refl _ | refine mle_upd ?_ (by first | rfl | (simp only [upd_app, killM_app, O.kill, A.kill, Nat.reduceEqDiff, reduceIte, Option.map_some, Option.map_none, List.map_cons, List.map_nil, wrap_succ (show k + 1 < 9223372036854775808 by omega), hnx]; done)))
       case sle => repeat (first | exact sle_top _ | exact sle_refl _ | refine sle_upd ?_ (by first | rfl | (simp only [upd_app, killS_app, A.kill, entry_zero, entry_succ, Nat.reduceEqDiff, reduceIte, wrap_succ (show k + 1 < 9223372036854775808 by omega), hnx]; done)))
     ·intro hge2
      simp only [decide_eq_false_iff_not, Int.ofNat_lt] at hge2
      obtain rfl : k = code.length := by omega
      have hgc : e1 code code.length ++ e2 code code.length = gC code := rfl
      have hgl := gC_len code
      have hgt := gC_lt hok
      rw [hgc]
      (repeat (first | refine W.seq ?_ | refine W.block ?_ | refine W.skip ?_ | refine W.exit ?_))
      have hE2 : ∀ e ∈ swapE (gC code), e.1 < code.length + 1 ∧ e.2 < code.length + 1 := fun e he => by
       have := hgt _ (mem_swap.1 (show (e.1, e.2) ∈ _ from he))
       simp only at this
       omega
      refine W.regionDK tab_ok 0 follows_mixed (by kernel_rfl) (by decide) ?_
      refine runk_split 3 (by simp only [exa, beq_self_eq_true, ByteArray.size, Nat.reduceAdd, Nat.reduceLeDiff, Nat.reduceEqDiff, Nat.reduceMul, Int.reduceToNat, reduceIte, Int.reduceLE, Int.reduceNeg, doneS, doneM, DID, memW, hwn]; rfl) ?_
      refine runk_call rfl rfl rfl rfl rfl (by simp) (cvs_cons (cv_own rfl) cvs_nil) (turnN_ok (gC code) (by omega) _) ?_
      refine runk_split 1 (by simp only [exa, beq_self_eq_true, ByteArray.size, Nat.reduceAdd, Nat.reduceLeDiff, Nat.reduceEqDiff, Nat.reduceMul, Int.reduceToNat, reduceIte, Int.reduceLE, Int.reduceNeg, doneS, doneM, DID, memW, hwn]; rfl) ?_
      refine runk_call rfl rfl rfl rfl rfl (by simp) (cvs_cons cv_refl (cvs_cons cv_refl (cvs_cons cv_refl cvs_nil))) (domTree_ok (code.length + 1) code.length (swapE (gC code)) u T (by omega) (by omega) hE2 (by simp [swapE]; omega) _) ?_
      refine runk_exec (by simp only [exa, beq_self_eq_true, ByteArray.size, Nat.reduceAdd, Nat.reduceLeDiff, Nat.reduceEqDiff, Nat.reduceMul, Int.reduceToNat, reduceIte, Int.reduceLE, Int.reduceNeg, doneS, doneM, DID, memW, hwn]; rfl) ?_
      repeat (first | refine W.seq ?_ | refine W.block ?_ | refine W.skip ?_ | refine W.exit ?_ | refine W.region tab_ok 0 (by decide) (exec_run (by simp only [exa, beq_self_eq_true, ByteArray.size, Nat.reduceAdd, Nat.reduceLeDiff, Nat.reduceEqDiff, Nat.reduceMul, Int.reduceToNat, reduceIte, Int.reduceLE, Int.reduceNeg, doneS, doneM, DID, memW]; rfl)) ?_)
      refine W.ret ⟨.inr rfl, .inr ⟨b, 1002, rfl, rfl, rfl, ?_⟩⟩
      simp only [Tryd.f17, resA, resOne, toT, fin, doneS, doneM, DID, exa, beq_self_eq_true, ByteArray.size, Nat.reduceAdd, Nat.reduceLeDiff, Nat.reduceEqDiff, Nat.reduceMul, Int.reduceToNat, reduceIte, Int.reduceLE, Int.reduceNeg]
end V
end Go.Proofs.YtnmfbaahabcocaaDoor
end
