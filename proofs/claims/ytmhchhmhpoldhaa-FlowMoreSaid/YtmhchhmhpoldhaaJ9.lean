/- Joined by my own program, in build order: L24d, LawFlowM24, LawJ24. -/
import Derived.Test.YtmhchhmhpoldhaaJ8
import Derived.Test.YtmhchhmhpoldhaaJ4
set_option linter.unusedVariables false
set_option linter.unusedSimpArgs false
section
set_option linter.unusedVariables false
set_option linter.unusedSimpArgs false
namespace Go.Proofs.Ytmhchhmhpoldhaa
namespace V
open Go.RowKit G
set_option maxHeartbeats 8000000 in
theorem lawMore24_ok (n : Int) (l more : List Q) (ids : List Int) (also : Int) (m : Mem) : COk Try.prog 8 [.c (.int .i64 n), .c (.sl (l.map cS)), .c (.sl (more.map cS)), .c (.sl (ids.map cZ)), .c (.int .i64 also)] m (.c (.bool true)) := by
 refine (ok_pure tab_ok Try.func8 (by kernel_rfl) rfl rfl (by rfl) (by rfl) (by rfl) (fun R hkeep => ?_) m)
 repeat (first | refine W.seq ?_ | refine W.block ?_ | refine W.skip ?_ | refine W.exit ?_ | refine W.region tab_ok 0 (by decide) (exec_run (by simp only [exa, beq_self_eq_true, ByteArray.size, Nat.reduceAdd, Nat.reduceLeDiff, Nat.reduceEqDiff, Nat.reduceMul, Int.reduceToNat, reduceIte, Int.reduceLE, Int.reduceNeg]; rfl)) ?_)
 refine W.regionK tab_ok 0 (by decide) ?_
 refine runk_split 0 (by simp only [exa, beq_self_eq_true, ByteArray.size, Nat.reduceAdd, Nat.reduceLeDiff, Nat.reduceEqDiff, Nat.reduceMul, Int.reduceToNat, reduceIte, Int.reduceLE, Int.reduceNeg]; rfl) ?_
 refine runk_call rfl rfl rfl rfl rfl (by simp) cvs_nil (live_ok _) ?_
 refine runk_exec (by simp only [exa, beq_self_eq_true, ByteArray.size, Nat.reduceAdd, Nat.reduceLeDiff, Nat.reduceEqDiff, Nat.reduceMul, Int.reduceToNat, reduceIte, Int.reduceLE, Int.reduceNeg]; rfl) ?_
 (repeat (first | refine W.seq ?_ | refine W.block ?_ | refine W.skip ?_ | refine W.exit ?_))
 refine W.regionK tab_ok 0 (by decide) ?_
 refine runk_split 2 (by simp only [exa, beq_self_eq_true, ByteArray.size, Nat.reduceAdd, Nat.reduceLeDiff, Nat.reduceEqDiff, Nat.reduceMul, Int.reduceToNat, reduceIte, Int.reduceLE, Int.reduceNeg]; rfl) ?_
 refine runk_call rfl rfl rfl rfl rfl (by simp) (cvs_cons cv_refl (cvs_cons cv_refl cvs_nil)) (big_ok n l _) ?_
 by_cases hb : bigS n l = true
 ·rw [hb]
  refine runk_exec (by simp only [exa, beq_self_eq_true, ByteArray.size, Nat.reduceAdd, Nat.reduceLeDiff, Nat.reduceEqDiff, Nat.reduceMul, Int.reduceToNat, reduceIte, Int.reduceLE, Int.reduceNeg]; rfl) ?_
  refine W.cond rfl (fun _ => ?_) (fun h => absurd h (by simp))
  repeat (first | refine W.seq ?_ | refine W.block ?_ | refine W.skip ?_ | refine W.exit ?_ | refine W.region tab_ok 0 (by decide) (exec_run (by simp only [exa, beq_self_eq_true, ByteArray.size, Nat.reduceAdd, Nat.reduceLeDiff, Nat.reduceEqDiff, Nat.reduceMul, Int.reduceToNat, reduceIte, Int.reduceLE, Int.reduceNeg]; rfl)) ?_)
  refine W.ret ⟨.inr rfl, by rfl, ?_⟩
  simp only [Try.f8, resA, resOne, toT, fin, exa, beq_self_eq_true, ByteArray.size, Nat.reduceAdd, Nat.reduceLeDiff, Nat.reduceEqDiff, Nat.reduceMul, Int.reduceToNat, reduceIte, Int.reduceLE, Int.reduceNeg]
 rw [show bigS n l = false by simpa using hb]
 have hbb := big_bound (show bigS n l = false by simpa using hb)
 clear hb
 by_cases hm1 : (20 : Int) < (more.length : Int)
 ·have p0 := eq_true hm1
  refine runk_exec (by simp only [exa, beq_self_eq_true, ByteArray.size, Nat.reduceAdd, Nat.reduceLeDiff, Nat.reduceEqDiff, Nat.reduceMul, Int.reduceToNat, reduceIte, Int.reduceLE, Int.reduceNeg, p0, decide_true, List.length_map]; rfl) ?_
  refine W.cond rfl (fun _ => ?_) (fun h => absurd h (by simp))
  repeat (first | refine W.seq ?_ | refine W.block ?_ | refine W.skip ?_ | refine W.exit ?_ | refine W.region tab_ok 0 (by decide) (exec_run (by simp only [exa, beq_self_eq_true, ByteArray.size, Nat.reduceAdd, Nat.reduceLeDiff, Nat.reduceEqDiff, Nat.reduceMul, Int.reduceToNat, reduceIte, Int.reduceLE, Int.reduceNeg]; rfl)) ?_)
  refine W.ret ⟨.inr rfl, by rfl, ?_⟩
  simp only [Try.f8, resA, resOne, toT, fin, exa, beq_self_eq_true, ByteArray.size, Nat.reduceAdd, Nat.reduceLeDiff, Nat.reduceEqDiff, Nat.reduceMul, Int.reduceToNat, reduceIte, Int.reduceLE, Int.reduceNeg]
 have q0 := eq_false hm1
 by_cases hm : (50 : Int) < (ids.length : Int)
 ·have p0 := eq_true hm
  refine runk_exec (by simp only [exa, beq_self_eq_true, ByteArray.size, Nat.reduceAdd, Nat.reduceLeDiff, Nat.reduceEqDiff, Nat.reduceMul, Int.reduceToNat, reduceIte, Int.reduceLE, Int.reduceNeg, p0, decide_true, List.length_map, q0, decide_false]; rfl) ?_
  refine W.cond rfl (fun _ => ?_) (fun h => absurd h (by simp))
  repeat (first | refine W.seq ?_ | refine W.block ?_ | refine W.skip ?_ | refine W.exit ?_ | refine W.region tab_ok 0 (by decide) (exec_run (by simp only [exa, beq_self_eq_true, ByteArray.size, Nat.reduceAdd, Nat.reduceLeDiff, Nat.reduceEqDiff, Nat.reduceMul, Int.reduceToNat, reduceIte, Int.reduceLE, Int.reduceNeg]; rfl)) ?_)
  refine W.ret ⟨.inr rfl, by rfl, ?_⟩
  simp only [Try.f8, resA, resOne, toT, fin, exa, beq_self_eq_true, ByteArray.size, Nat.reduceAdd, Nat.reduceLeDiff, Nat.reduceEqDiff, Nat.reduceMul, Int.reduceToNat, reduceIte, Int.reduceLE, Int.reduceNeg]
 have p0 := eq_false hm
 refine runk_exec (by simp only [exa, beq_self_eq_true, ByteArray.size, Nat.reduceAdd, Nat.reduceLeDiff, Nat.reduceEqDiff, Nat.reduceMul, Int.reduceToNat, reduceIte, Int.reduceLE, Int.reduceNeg, q0, p0, decide_false, List.length_map]; rfl) ?_
 refine W.cond rfl (fun h => absurd h (by simp)) (fun _ => ?_)
 have hsm := small_len (n := n) (l := l) (by omega) hbb.2
 have hsm2 := small_len (n := n) (l := l ++ more) (by rw [List.length_append]; omega) hbb.2
 have hrr := fun m => reachZ_ok n l ids hsm (by omega) m
 have hrr2 := fun m => reachZ_ok n (l ++ more) (ids ++ [also]) hsm2 (by simp; omega) m
 rw [List.map_append, cZ_app] at hrr2
 have hfacts : (reachO n l ids).2 ≠ 0 ∨ (reachO n (l ++ more) (ids ++ [also])).2 ≠ 0 ∨ (errN n l ids = 0 ∧ errN n (l ++ more) (ids ++ [also]) = 0) := by
  by_cases h1 : errN n l ids = 0
  ·by_cases h2 : errN n (l ++ more) (ids ++ [also]) = 0
   ·exact .inr (.inr ⟨h1, h2⟩)
   ·refine .inr (.inl ?_); unfold reachO; rw [if_neg h2]; exact h2
  ·refine .inl ?_; unfold reachO; rw [if_neg h1]; exact h1
 have hZa : errN n l ids = 0 → (reachO n l ids).1 = reachB (Ms.farF (turnL (allS n.toNat l)) (twi (natI ids))) n.toNat ∧ (reachO n l ids).2 = 0 := fun h => by unfold reachO; rw [if_pos h]; exact ⟨rfl, rfl⟩
 have hZb : errN n (l ++ more) (ids ++ [also]) = 0 → (reachO n (l ++ more) (ids ++ [also])).1 = reachB (Ms.farF (turnL (allS n.toNat (l ++ more))) (twi (natI (ids ++ [also])))) n.toNat ∧ (reachO n (l ++ more) (ids ++ [also])).2 = 0 := fun h => by unfold reachO; rw [if_pos h]; exact ⟨rfl, rfl⟩
 generalize reachO n l ids = X at hrr hfacts hZa
 generalize reachO n (l ++ more) (ids ++ [also]) = Y at hrr2 hfacts hZb
 obtain ⟨Za, e⟩ := X
 obtain ⟨Zb, f⟩ := Y
 simp only at hrr hrr2 hfacts hZa hZb
 (repeat (first | refine W.seq ?_ | refine W.block ?_ | refine W.skip ?_ | refine W.exit ?_))
 refine W.regionK tab_ok 0 (by decide) ?_
 refine runk_split 3 (by simp only [exa, beq_self_eq_true, ByteArray.size, Nat.reduceAdd, Nat.reduceLeDiff, Nat.reduceEqDiff, Nat.reduceMul, Int.reduceToNat, reduceIte, Int.reduceLE, Int.reduceNeg]; rfl) ?_
 refine runk_call rfl rfl rfl rfl rfl (by simp) (cvs_cons cv_refl (cvs_cons cv_refl (cvs_cons cv_refl cvs_nil))) (hrr _) ?_
 refine runk_exec (by simp only [exa, beq_self_eq_true, ByteArray.size, Nat.reduceAdd, Nat.reduceLeDiff, Nat.reduceEqDiff, Nat.reduceMul, Int.reduceToNat, reduceIte, Int.reduceLE, Int.reduceNeg]; rfl) ?_
 (repeat (first | refine W.seq ?_ | refine W.block ?_ | refine W.skip ?_ | refine W.exit ?_))
 refine W.regionK tab_ok 0 (by decide) ?_
 refine runk_split 2 (by simp only [exa, beq_self_eq_true, ByteArray.size, Nat.reduceAdd, Nat.reduceLeDiff, Nat.reduceEqDiff, Nat.reduceMul, Int.reduceToNat, reduceIte, Int.reduceLE, Int.reduceNeg]; rfl) ?_
 refine runk_appendNil tab_ok 90 true rfl rfl rfl rfl rfl rfl rfl (by simp only [exa, beq_self_eq_true, ByteArray.size, Nat.reduceAdd, Nat.reduceLeDiff, Nat.reduceEqDiff, Nat.reduceMul, Int.reduceToNat, reduceIte, Int.reduceLE, Int.reduceNeg]) (by first | rfl | (simp only [exa, beq_self_eq_true, ByteArray.size, Nat.reduceAdd, Nat.reduceLeDiff, Nat.reduceEqDiff, Nat.reduceMul, Int.reduceToNat, reduceIte, Int.reduceLE, Int.reduceNeg]; rfl)) rfl rfl rfl rfl (fun z hz => by obtain ⟨⟨a, b, c, d⟩, -, rfl⟩ := List.mem_map.1 hz; rfl) (by rw [List.length_map]; omega) (by decide) ?_
 refine runk_split 1 (by simp only [exa, beq_self_eq_true, ByteArray.size, Nat.reduceAdd, Nat.reduceLeDiff, Nat.reduceEqDiff, Nat.reduceMul, Int.reduceToNat, reduceIte, Int.reduceLE, Int.reduceNeg]; rfl) ?_
 refine runk_append tab_ok 90 rfl rfl rfl rfl rfl rfl rfl rfl (by first | rfl | (simp only [exa, beq_self_eq_true, ByteArray.size, Nat.reduceAdd, Nat.reduceLeDiff, Nat.reduceEqDiff, Nat.reduceMul, Int.reduceToNat, reduceIte, Int.reduceLE, Int.reduceNeg]; rfl)) rfl rfl rfl rfl (nokeep hkeep) (fun z hz => by obtain ⟨⟨a, b, c, d⟩, -, rfl⟩ := List.mem_map.1 hz; rfl) (by rw [List.length_map, List.length_map]; omega) (by decide) ?_
 refine runk_split 1 (by simp only [exa, beq_self_eq_true, ByteArray.size, Nat.reduceAdd, Nat.reduceLeDiff, Nat.reduceEqDiff, Nat.reduceMul, Int.reduceToNat, reduceIte, Int.reduceLE, Int.reduceNeg]; rfl) ?_
 refine runk_appendNil tab_ok 91 true rfl rfl rfl rfl rfl rfl rfl (by simp only [exa, beq_self_eq_true, ByteArray.size, Nat.reduceAdd, Nat.reduceLeDiff, Nat.reduceEqDiff, Nat.reduceMul, Int.reduceToNat, reduceIte, Int.reduceLE, Int.reduceNeg]) (by first | rfl | (simp only [exa, beq_self_eq_true, ByteArray.size, Nat.reduceAdd, Nat.reduceLeDiff, Nat.reduceEqDiff, Nat.reduceMul, Int.reduceToNat, reduceIte, Int.reduceLE, Int.reduceNeg]; rfl)) rfl rfl rfl rfl (fun z hz => by obtain ⟨y, -, rfl⟩ := List.mem_map.1 hz; rfl) (by rw [List.length_map]; omega) (by decide) ?_
 refine runk_split 2 (by simp only [exa, beq_self_eq_true, ByteArray.size, Nat.reduceAdd, Nat.reduceLeDiff, Nat.reduceEqDiff, Nat.reduceMul, Int.reduceToNat, reduceIte, Int.reduceLE, Int.reduceNeg]; rfl) ?_
 refine runk_append tab_ok 91 rfl rfl rfl rfl rfl rfl rfl rfl (by first | rfl | (simp only [exa, beq_self_eq_true, ByteArray.size, Nat.reduceAdd, Nat.reduceLeDiff, Nat.reduceEqDiff, Nat.reduceMul, Int.reduceToNat, reduceIte, Int.reduceLE, Int.reduceNeg]; rfl)) rfl rfl rfl rfl (nokeep hkeep) (fun z hz => by simp at hz; subst hz; rfl) (by simp only [List.length_map, List.length_cons, List.length_nil]; omega) (by decide) ?_
 refine runk_split 0 (by simp only [exa, beq_self_eq_true, ByteArray.size, Nat.reduceAdd, Nat.reduceLeDiff, Nat.reduceEqDiff, Nat.reduceMul, Int.reduceToNat, reduceIte, Int.reduceLE, Int.reduceNeg]; rfl) ?_
 refine runk_call rfl rfl rfl rfl rfl (by simp) (cvs_cons cv_refl (cvs_cons (cv_own rfl) (cvs_cons (cv_own rfl) cvs_nil))) (hrr2 _) ?_
 refine runk_exec (by simp only [exa, beq_self_eq_true, ByteArray.size, Nat.reduceAdd, Nat.reduceLeDiff, Nat.reduceEqDiff, Nat.reduceMul, Int.reduceToNat, reduceIte, Int.reduceLE, Int.reduceNeg]; rfl) ?_
 by_cases e0 : e = 0
 rotate_left
 ·have pe := eq_false e0
  repeat (first | refine W.seq ?_ | refine W.block ?_ | refine W.skip ?_ | refine W.exit ?_ | refine W.region tab_ok 0 (by decide) (exec_run (by simp only [exa, beq_self_eq_true, ByteArray.size, Nat.reduceAdd, Nat.reduceLeDiff, Nat.reduceEqDiff, Nat.reduceMul, Int.reduceToNat, reduceIte, Int.reduceLE, Int.reduceNeg, pe, decide_false, Bool.not_false]; rfl)) ?_)
  refine W.cond rfl (fun _ => ?_) (fun h => absurd h (by simp))
  repeat (first | refine W.seq ?_ | refine W.block ?_ | refine W.skip ?_ | refine W.exit ?_ | refine W.region tab_ok 0 (by decide) (exec_run (by simp only [exa, beq_self_eq_true, ByteArray.size, Nat.reduceAdd, Nat.reduceLeDiff, Nat.reduceEqDiff, Nat.reduceMul, Int.reduceToNat, reduceIte, Int.reduceLE, Int.reduceNeg]; rfl)) ?_)
  refine W.ret ⟨.inr rfl, by rfl, ?_⟩
  simp only [Try.f8, resA, resOne, toT, fin, exa, beq_self_eq_true, ByteArray.size, Nat.reduceAdd, Nat.reduceLeDiff, Nat.reduceEqDiff, Nat.reduceMul, Int.reduceToNat, reduceIte, Int.reduceLE, Int.reduceNeg]
 by_cases f0 : f = 0
 rotate_left
 ·have pe := eq_true e0
  have pf := eq_false f0
  repeat (first | refine W.seq ?_ | refine W.block ?_ | refine W.skip ?_ | refine W.exit ?_ | refine W.region tab_ok 0 (by decide) (exec_run (by simp only [exa, beq_self_eq_true, ByteArray.size, Nat.reduceAdd, Nat.reduceLeDiff, Nat.reduceEqDiff, Nat.reduceMul, Int.reduceToNat, reduceIte, Int.reduceLE, Int.reduceNeg, pe, pf, decide_true, Bool.not_true, decide_false, Bool.not_false]; rfl)) ?_)
  refine W.cond rfl (fun _ => ?_) (fun h => absurd h (by simp))
  repeat (first | refine W.seq ?_ | refine W.block ?_ | refine W.skip ?_ | refine W.exit ?_ | refine W.region tab_ok 0 (by decide) (exec_run (by simp only [exa, beq_self_eq_true, ByteArray.size, Nat.reduceAdd, Nat.reduceLeDiff, Nat.reduceEqDiff, Nat.reduceMul, Int.reduceToNat, reduceIte, Int.reduceLE, Int.reduceNeg]; rfl)) ?_)
  refine W.ret ⟨.inr rfl, by rfl, ?_⟩
  simp only [Try.f8, resA, resOne, toT, fin, exa, beq_self_eq_true, ByteArray.size, Nat.reduceAdd, Nat.reduceLeDiff, Nat.reduceEqDiff, Nat.reduceMul, Int.reduceToNat, reduceIte, Int.reduceLE, Int.reduceNeg]
 obtain ⟨he, he2⟩ := (hfacts.resolve_left (fun h => h e0)).resolve_left (fun h => h f0)
 have pe := eq_true e0
 have pf := eq_true f0
 obtain ⟨hZa, -⟩ := hZa he
 obtain ⟨hZb, -⟩ := hZb he2
 obtain ⟨hc, hz⟩ := errN_good he
 obtain ⟨hc2, hz2⟩ := errN_good he2
 obtain ⟨n, rfl⟩ := good_n hc
 rw [Int.toNat_natCast] at hZa hZb
 have hE := allS_lt hc
 have hn : n ≤ 100000 := by have := (natS_back hc).2.1; omega
 have hla := reachB_len (Ms.farF (turnL (allS n l)) (twi (natI ids))) n
 have hlb := reachB_len (Ms.farF (turnL (allS n (l ++ more))) (twi (natI (ids ++ [also])))) n
 have hnb := reachB_nodup (Ms.farF (turnL (allS n (l ++ more))) (twi (natI (ids ++ [also])))) n
 have hma : ∀ x, x ∈ Za ↔ x < n ∧ Reached (allS n l) (natI ids) x := fun x => by rw [hZa]; exact mem_reachS
 have hmb : ∀ x, x ∈ Zb ↔ x < n ∧ Reached (allS n (l ++ more)) (natI (ids ++ [also])) x := fun x => by rw [hZb]; exact mem_reachS
 rw [← hZa] at hla
 rw [← hZb] at hlb hnb
 have hsub : ∀ x ∈ Za, x ∈ Zb := fun x hx => by
  obtain ⟨h1, h2⟩ := (hma x).1 hx
  exact (hmb x).2 ⟨h1, h2.more allS_more (fun a ha => by unfold natI at ha ⊢; rw [List.map_append]; exact List.mem_append_left _ ha)⟩
 have halso := hz2 also (by simp)
 have hain : also ∈ zN Zb := by
  rw [show also = ((also.toNat : Nat) : Int) by omega]
  refine mem_zN.2 ((hmb _).2 ⟨by omega, (pathF_self ?_).1⟩)
  unfold natI; rw [List.map_append]; simp
 obtain ⟨qa, hqa⟩ := findT_some hain
 clear hfacts hZa hZb
 repeat (first | refine W.seq ?_ | refine W.block ?_ | refine W.skip ?_ | refine W.exit ?_ | refine W.region tab_ok 0 (by decide) (exec_run (by simp only [exa, beq_self_eq_true, ByteArray.size, Nat.reduceAdd, Nat.reduceLeDiff, Nat.reduceEqDiff, Nat.reduceMul, Int.reduceToNat, reduceIte, Int.reduceLE, Int.reduceNeg, pe, pf, decide_true, Bool.not_true]; rfl)) ?_)
 refine W.cond rfl (fun h => absurd h (by simp)) (fun _ => ?_)
 repeat (first | refine W.seq ?_ | refine W.block ?_ | refine W.skip ?_ | refine W.exit ?_ | refine W.region tab_ok 0 (by decide) (exec_run (by simp only [exa, beq_self_eq_true, ByteArray.size, Nat.reduceAdd, Nat.reduceLeDiff, Nat.reduceEqDiff, Nat.reduceMul, Int.reduceToNat, reduceIte, Int.reduceLE, Int.reduceNeg, List.length_map]; rfl)) ?_)
 refine W.loop (ι := Nat) (fun k => ⟨upd (upd (upd (upd (upd (upd (upd (upd (upd (upd (fun _ => .top) 0 (.c (.int .i64 (n : Int)))) 1 (.c (.sl (l.map cS)))) 3 (.c (.sl (ids.map cZ)))) 4 (.c (.int .i64 also))) 11 (.c (.bool true))) 16 (.map 68)) 12 (.c (.sl (Za.map cN)))) 69 (.c (.sl (Zb.map cN)))) 70 (.c (.int .i64 Zb.length))) 71 (.c (.int .i64 k)), upd Mem.nil 68 (some (.map (entsT (zN (Zb.take k)))))⟩) (fun k => k ≤ Zb.length) (fun k => Zb.length - k) 0 ?start (Nat.zero_le _) ?round
 case start =>
  refine le_mk ?sle ?mle ?swf ?mwf (kept_not hkeep) (by rfl)
  case swf => repeat (first | exact swf_top _ | refine swf_upd ?_ (by simp [A.ids, upd_app, entsT, zN, List.take, List.map_nil]))
  case mwf => repeat (first | exact mwf_nil _ | refine mwf_upd ?_ (by simp [A.ids, O.ids, upd_app, entsT, zN, List.take, List.map_nil]))
  case mle => repeat (first | exact mle_nil _ | exact mle_refl _ | refine mle_upd ?_ (by first | rfl | (simp only [upd_app, killM_app, O.kill, A.kill, Nat.reduceEqDiff, reduceIte, Option.map_some, Option.map_none, List.map_cons, List.map_nil, entsT, zN, List.take, List.map_nil]; done)))
  case sle => repeat (first | exact sle_top _ | exact sle_refl _ | refine sle_upd ?_ (by first | rfl | (simp only [upd_app, killS_app, A.kill, entry_zero, entry_succ, Nat.reduceEqDiff, reduceIte, entsT, zN, List.take, List.map_nil]; done)))
 case round =>
  intro k hk
  repeat (first | refine W.seq ?_ | refine W.block ?_ | refine W.skip ?_ | refine W.exit ?_ | refine W.region tab_ok 0 (by decide) (exec_run (by simp only [exa, beq_self_eq_true, ByteArray.size, Nat.reduceAdd, Nat.reduceLeDiff, Nat.reduceEqDiff, Nat.reduceMul, Int.reduceToNat, reduceIte, Int.reduceLE, Int.reduceNeg]; rfl)) ?_)
  refine W.cond rfl ?_ ?_
  ·intro hlt
   simp only [decide_eq_true_eq, Int.ofNat_lt] at hlt
   obtain ⟨x, hx⟩ : ∃ x, Zb[k]? = some x := ⟨_, List.getElem?_eq_getElem hlt⟩
   have hfind := findT_none (nodup_new hnb hx)
   have hput : putE (.c (.int .i64 (x : Int))) (.c (.bool true)) (entsT (zN (Zb.take k))) none = entsT (zN (Zb.take (k + 1))) := by
    rw [List.take_add_one, hx, Option.toList_some, show zN (Zb.take k ++ [x]) = zN (Zb.take k) ++ [(x : Int)] by simp [zN], entsT_push]; rfl
   repeat (first | refine W.seq ?_ | refine W.block ?_ | refine W.skip ?_ | refine W.exit ?_ | refine W.region tab_ok 0 (by decide) (exec_run (by simp only [exa, beq_self_eq_true, ByteArray.size, Nat.reduceAdd, Nat.reduceLeDiff, Nat.reduceEqDiff, Nat.reduceMul, Int.reduceToNat, reduceIte, Int.reduceLE, Int.reduceNeg, at_map hx, cN]; rfl)) ?_)
   refine W.regionK tab_ok 0 (by decide) ?_
   refine runk_split 2 (by simp only [exa, beq_self_eq_true, ByteArray.size, Nat.reduceAdd, Nat.reduceLeDiff, Nat.reduceEqDiff, Nat.reduceMul, Int.reduceToNat, reduceIte, Int.reduceLE, Int.reduceNeg]; rfl) ?_
   refine runk_put tab_ok (ents := (entsT (zN (Zb.take k)))) rfl (.inl rfl) rfl rfl (by first | rfl | (simp only [exa, beq_self_eq_true, ByteArray.size, Nat.reduceAdd, Nat.reduceLeDiff, Nat.reduceEqDiff, Nat.reduceMul, Int.reduceToNat, reduceIte, Int.reduceLE, Int.reduceNeg]; done)) rfl (by first | rfl | (simp only [exa, beq_self_eq_true, ByteArray.size, Nat.reduceAdd, Nat.reduceLeDiff, Nat.reduceEqDiff, Nat.reduceMul, Int.reduceToNat, reduceIte, Int.reduceLE, Int.reduceNeg]; rfl)) (by rfl) (by first | rfl | (simp only [exa, beq_self_eq_true, ByteArray.size, Nat.reduceAdd, Nat.reduceLeDiff, Nat.reduceEqDiff, Nat.reduceMul, Int.reduceToNat, reduceIte, Int.reduceLE, Int.reduceNeg]; rfl)) hfind ?_
   refine runk_exec (by simp only [exa, beq_self_eq_true, ByteArray.size, Nat.reduceAdd, Nat.reduceLeDiff, Nat.reduceEqDiff, Nat.reduceMul, Int.reduceToNat, reduceIte, Int.reduceLE, Int.reduceNeg]; rfl) ?_
   repeat (first | refine W.seq ?_ | refine W.block ?_ | refine W.skip ?_ | refine W.exit ?_ | refine W.region tab_ok 0 (by decide) (exec_run (by simp only [exa, beq_self_eq_true, ByteArray.size, Nat.reduceAdd, Nat.reduceLeDiff, Nat.reduceEqDiff, Nat.reduceMul, Int.reduceToNat, reduceIte, Int.reduceLE, Int.reduceNeg]; rfl)) ?_)
   refine ⟨k + 1, hlt, by omega, ?_⟩
   refine le_mk ?sle ?mle ?swf ?mwf (kept_not hkeep) (by rfl)
   case swf => repeat (first | exact swf_top _ | refine swf_upd ?_ (by simp [A.ids, upd_app, entsT_flat, hput, wrap_succ (show k + 1 < 9223372036854775808 by omega)]))
   case mwf => repeat (first | exact mwf_nil _ | refine mwf_upd ?_ (by simp [A.ids, O.ids, upd_app, entsT_flat, hput, wrap_succ (show k + 1 < 9223372036854775808 by omega)]))
   case mle => repeat (first | exact mle_nil _ | exact mle_refl _ | refine mle_upd ?_ (by first | rfl | (simp only [upd_app, killM_app, O.kill, A.kill, Nat.reduceEqDiff, reduceIte, Option.map_some, Option.map_none, List.map_cons, List.map_nil, entsT_flat, hput, wrap_succ (show k + 1 < 9223372036854775808 by omega)]; done)))
   case sle => repeat (first | exact sle_top _ | exact sle_refl _ | refine sle_upd ?_ (by first | rfl | (simp only [upd_app, killS_app, A.kill, entry_zero, entry_succ, Nat.reduceEqDiff, reduceIte, entsT_flat, hput, wrap_succ (show k + 1 < 9223372036854775808 by omega)]; done)))
  ·intro hge
   simp only [decide_eq_false_iff_not, Int.ofNat_lt] at hge
   obtain rfl : k = Zb.length := by omega
   rw [List.take_length]
   repeat (first | refine W.seq ?_ | refine W.block ?_ | refine W.skip ?_ | refine W.exit ?_ | refine W.region tab_ok 0 (by decide) (exec_run (by simp only [exa, beq_self_eq_true, ByteArray.size, Nat.reduceAdd, Nat.reduceLeDiff, Nat.reduceEqDiff, Nat.reduceMul, Int.reduceToNat, reduceIte, Int.reduceLE, Int.reduceNeg, List.length_map]; rfl)) ?_)
   refine W.loop (ι := Nat) (fun k => ⟨upd (upd (upd (upd (upd (upd (upd (upd (upd (fun _ => .top) 0 (.c (.int .i64 (n : Int)))) 1 (.c (.sl (l.map cS)))) 3 (.c (.sl (ids.map cZ)))) 4 (.c (.int .i64 also))) 11 (.c (.bool true))) 16 (.map 68)) 78 (.c (.sl (Za.map cN)))) 79 (.c (.int .i64 Za.length))) 80 (.c (.int .i64 k)), upd Mem.nil 68 (some (.map (entsT (zN Zb))))⟩) (fun k => k ≤ Za.length) (fun k => Za.length - k) 0 ?start2 (Nat.zero_le _) ?round2
   case start2 =>
    refine le_mk ?sle ?mle ?swf ?mwf (kept_not hkeep) (by rfl)
    case swf => repeat (first | exact swf_top _ | refine swf_upd ?_ (by simp [A.ids, upd_app, entsT_flat]))
    case mwf => repeat (first | exact mwf_nil _ | refine mwf_upd ?_ (by simp [A.ids, O.ids, upd_app, entsT_flat]))
    case mle => repeat (first | exact mle_nil _ | exact mle_refl _ | refine mle_upd ?_ (by first | rfl | (simp only [upd_app, killM_app, O.kill, A.kill, Nat.reduceEqDiff, reduceIte, Option.map_some, Option.map_none, List.map_cons, List.map_nil, entsT_flat]; done)))
    case sle => repeat (first | exact sle_top _ | exact sle_refl _ | refine sle_upd ?_ (by first | rfl | (simp only [upd_app, killS_app, A.kill, entry_zero, entry_succ, Nat.reduceEqDiff, reduceIte, entsT_flat]; done)))
   case round2 =>
    intro k hk
    repeat (first | refine W.seq ?_ | refine W.block ?_ | refine W.skip ?_ | refine W.exit ?_ | refine W.region tab_ok 0 (by decide) (exec_run (by simp only [exa, beq_self_eq_true, ByteArray.size, Nat.reduceAdd, Nat.reduceLeDiff, Nat.reduceEqDiff, Nat.reduceMul, Int.reduceToNat, reduceIte, Int.reduceLE, Int.reduceNeg]; rfl)) ?_)
    refine W.cond rfl ?_ ?_
    ·intro hlt
     simp only [decide_eq_true_eq, Int.ofNat_lt] at hlt
     obtain ⟨x, hx⟩ : ∃ x, Za[k]? = some x := ⟨_, List.getElem?_eq_getElem hlt⟩
     obtain ⟨q, hq⟩ := findT_some (mem_zN.2 (hsub x (List.mem_of_getElem? hx)))
     repeat (first | refine W.seq ?_ | refine W.block ?_ | refine W.skip ?_ | refine W.exit ?_ | refine W.region tab_ok 0 (by decide) (exec_run (by simp only [exa, beq_self_eq_true, ByteArray.size, Nat.reduceAdd, Nat.reduceLeDiff, Nat.reduceEqDiff, Nat.reduceMul, Int.reduceToNat, reduceIte, Int.reduceLE, Int.reduceNeg, at_map hx, cN, hq, Bool.not_true]; rfl)) ?_)
     refine W.cond rfl (fun h => absurd h (by simp)) (fun _ => ?_)
     repeat (first | refine W.seq ?_ | refine W.block ?_ | refine W.skip ?_ | refine W.exit ?_ | refine W.region tab_ok 0 (by decide) (exec_run (by simp only [exa, beq_self_eq_true, ByteArray.size, Nat.reduceAdd, Nat.reduceLeDiff, Nat.reduceEqDiff, Nat.reduceMul, Int.reduceToNat, reduceIte, Int.reduceLE, Int.reduceNeg]; rfl)) ?_)
     refine ⟨k + 1, hlt, by omega, ?_⟩
     refine le_mk ?sle ?mle ?swf ?mwf (kept_not hkeep) (by rfl)
     case swf => repeat (first | exact swf_top _ | refine swf_upd ?_ (by simp [A.ids, upd_app, entsT_flat, wrap_succ (show k + 1 < 9223372036854775808 by omega)]))
     case mwf => repeat (first | exact mwf_nil _ | refine mwf_upd ?_ (by simp [A.ids, O.ids, upd_app, entsT_flat, wrap_succ (show k + 1 < 9223372036854775808 by omega)]))
     case mle => repeat (first | exact mle_nil _ | exact mle_refl _ | refine mle_upd ?_ (by first | rfl | (simp only [upd_app, killM_app, O.kill, A.kill, Nat.reduceEqDiff, reduceIte, Option.map_some, Option.map_none, List.map_cons, List.map_nil, entsT_flat, wrap_succ (show k + 1 < 9223372036854775808 by omega)]; done)))
     case sle => repeat (first | exact sle_top _ | exact sle_refl _ | refine sle_upd ?_ (by first | rfl | (simp only [upd_app, killS_app, A.kill, entry_zero, entry_succ, Nat.reduceEqDiff, reduceIte, entsT_flat, wrap_succ (show k + 1 < 9223372036854775808 by omega)]; done)))
    ·intro hge2
     repeat (first | refine W.seq ?_ | refine W.block ?_ | refine W.skip ?_ | refine W.exit ?_ | refine W.region tab_ok 0 (by decide) (exec_run (by simp only [exa, beq_self_eq_true, ByteArray.size, Nat.reduceAdd, Nat.reduceLeDiff, Nat.reduceEqDiff, Nat.reduceMul, Int.reduceToNat, reduceIte, Int.reduceLE, Int.reduceNeg, List.length_map]; rfl)) ?_)
     refine W.loop (ι := Nat) (fun k => ⟨upd (upd (upd (upd (upd (upd (upd (upd (upd (fun _ => .top) 0 (.c (.int .i64 (n : Int)))) 1 (.c (.sl (l.map cS)))) 3 (.c (.sl (ids.map cZ)))) 4 (.c (.int .i64 also))) 11 (.c (.bool true))) 16 (.map 68)) 89 (.c (.sl (ids.map cZ)))) 90 (.c (.int .i64 ids.length))) 91 (.c (.int .i64 k)), upd Mem.nil 68 (some (.map (entsT (zN Zb))))⟩) (fun k => k ≤ ids.length) (fun k => ids.length - k) 0 ?start3 (Nat.zero_le _) ?round3
     case start3 =>
      refine le_mk ?sle ?mle ?swf ?mwf (kept_not hkeep) (by rfl)
      case swf => repeat (first | exact swf_top _ | refine swf_upd ?_ (by simp [A.ids, upd_app, entsT_flat]))
      case mwf => repeat (first | exact mwf_nil _ | refine mwf_upd ?_ (by simp [A.ids, O.ids, upd_app, entsT_flat]))
      case mle => repeat (first | exact mle_nil _ | exact mle_refl _ | refine mle_upd ?_ (by first | rfl | (simp only [upd_app, killM_app, O.kill, A.kill, Nat.reduceEqDiff, reduceIte, Option.map_some, Option.map_none, List.map_cons, List.map_nil, entsT_flat]; done)))
      case sle => repeat (first | exact sle_top _ | exact sle_refl _ | refine sle_upd ?_ (by first | rfl | (simp only [upd_app, killS_app, A.kill, entry_zero, entry_succ, Nat.reduceEqDiff, reduceIte, entsT_flat]; done)))
     case round3 =>
      intro k hk
      repeat (first | refine W.seq ?_ | refine W.block ?_ | refine W.skip ?_ | refine W.exit ?_ | refine W.region tab_ok 0 (by decide) (exec_run (by simp only [exa, beq_self_eq_true, ByteArray.size, Nat.reduceAdd, Nat.reduceLeDiff, Nat.reduceEqDiff, Nat.reduceMul, Int.reduceToNat, reduceIte, Int.reduceLE, Int.reduceNeg]; rfl)) ?_)
      refine W.cond rfl ?_ ?_
      ·intro hlt
       simp only [decide_eq_true_eq, Int.ofNat_lt] at hlt
       obtain ⟨z, hx⟩ : ∃ x, ids[k]? = some x := ⟨_, List.getElem?_eq_getElem hlt⟩
       have hzm := List.mem_of_getElem? hx
       have hzb := hz z hzm
       obtain ⟨t, rfl⟩ : ∃ t : Nat, z = (t : Int) := ⟨z.toNat, by omega⟩
       obtain ⟨s1, s2⟩ := pathF_self (S := allS n l) (src := natI ids) (t := t) (List.mem_map.2 ⟨(t : Int), hzm, by omega⟩)
       have hpz := fun m => pathZ_ok (n : Int) l ids (t : Int) hsm (by omega) m
       rw [(pathO_good (l := l) he (show t < n by omega)).1 s1, s2] at hpz
       simp only [List.map_cons, List.map_nil, cN] at hpz
       have hsl := fun m => same_lit [t] [(t : Int)] (by simp) rfl m
       simp only [List.map_cons, List.map_nil, cN, cZ] at hsl
       repeat (first | refine W.seq ?_ | refine W.block ?_ | refine W.skip ?_ | refine W.exit ?_ | refine W.region tab_ok 0 (by decide) (exec_run (by simp only [exa, beq_self_eq_true, ByteArray.size, Nat.reduceAdd, Nat.reduceLeDiff, Nat.reduceEqDiff, Nat.reduceMul, Int.reduceToNat, reduceIte, Int.reduceLE, Int.reduceNeg, at_map hx, cZ]; rfl)) ?_)
       refine W.regionK tab_ok 0 (by decide) ?_
       refine runk_split 4 (by simp only [exa, beq_self_eq_true, ByteArray.size, Nat.reduceAdd, Nat.reduceLeDiff, Nat.reduceEqDiff, Nat.reduceMul, Int.reduceToNat, reduceIte, Int.reduceLE, Int.reduceNeg]; rfl) ?_
       refine runk_call rfl rfl rfl rfl rfl (by simp) (cvs_cons cv_refl (cvs_cons cv_refl (cvs_cons cv_refl (cvs_cons cv_refl cvs_nil)))) (hpz _) ?_
       refine runk_exec (by simp only [exa, beq_self_eq_true, ByteArray.size, Nat.reduceAdd, Nat.reduceLeDiff, Nat.reduceEqDiff, Nat.reduceMul, Int.reduceToNat, reduceIte, Int.reduceLE, Int.reduceNeg]; rfl) ?_
       (repeat (first | refine W.seq ?_ | refine W.block ?_ | refine W.skip ?_ | refine W.exit ?_))
       refine W.regionK tab_ok 0 (by decide) ?_
       refine runk_split 6 (by simp only [exa, beq_self_eq_true, ByteArray.size, Nat.reduceAdd, Nat.reduceLeDiff, Nat.reduceEqDiff, Nat.reduceMul, Int.reduceToNat, reduceIte, Int.reduceLE, Int.reduceNeg, eq_self, decide_true, Bool.not_true]; rfl) ?_
       refine runk_call rfl rfl rfl rfl rfl (by simp) (cvs_cons cv_refl (cvs_cons cv_refl cvs_nil)) (hsl _) ?_
       refine runk_exec (by simp only [exa, beq_self_eq_true, ByteArray.size, Nat.reduceAdd, Nat.reduceLeDiff, Nat.reduceEqDiff, Nat.reduceMul, Int.reduceToNat, reduceIte, Int.reduceLE, Int.reduceNeg, eq_self, decide_true, Bool.not_true]; rfl) ?_
       refine W.cond rfl (fun h => absurd h (by simp)) (fun _ => ?_)
       repeat (first | refine W.seq ?_ | refine W.block ?_ | refine W.skip ?_ | refine W.exit ?_ | refine W.region tab_ok 0 (by decide) (exec_run (by simp only [exa, beq_self_eq_true, ByteArray.size, Nat.reduceAdd, Nat.reduceLeDiff, Nat.reduceEqDiff, Nat.reduceMul, Int.reduceToNat, reduceIte, Int.reduceLE, Int.reduceNeg]; rfl)) ?_)
       refine ⟨k + 1, hlt, by omega, ?_⟩
       refine le_mk ?sle ?mle ?swf ?mwf (kept_not hkeep) (by rfl)
       case swf => repeat (first | exact swf_top _ | refine swf_upd ?_ (by simp [A.ids, upd_app, entsT_flat, wrap_succ (show k + 1 < 9223372036854775808 by omega)]))
       case mwf => repeat (first | exact mwf_nil _ | refine mwf_upd ?_ (by simp [A.ids, O.ids, upd_app, entsT_flat, wrap_succ (show k + 1 < 9223372036854775808 by omega)]))
       case mle => repeat (first | exact mle_nil _ | exact mle_refl _ | refine mle_upd ?_ (by first | rfl | (simp only [upd_app, killM_app, O.kill, A.kill, Nat.reduceEqDiff, reduceIte, Option.map_some, Option.map_none, List.map_cons, List.map_nil, entsT_flat, wrap_succ (show k + 1 < 9223372036854775808 by omega)]; done)))
       case sle => repeat (first | exact sle_top _ | exact sle_refl _ | refine sle_upd ?_ (by first | rfl | (simp only [upd_app, killS_app, A.kill, entry_zero, entry_succ, Nat.reduceEqDiff, reduceIte, entsT_flat, wrap_succ (show k + 1 < 9223372036854775808 by omega)]; done)))
      ·intro hge3
       repeat (first | refine W.seq ?_ | refine W.block ?_ | refine W.skip ?_ | refine W.exit ?_ | refine W.region tab_ok 0 (by decide) (exec_run (by simp only [exa, beq_self_eq_true, ByteArray.size, Nat.reduceAdd, Nat.reduceLeDiff, Nat.reduceEqDiff, Nat.reduceMul, Int.reduceToNat, reduceIte, Int.reduceLE, Int.reduceNeg, hqa]; rfl)) ?_)
       refine W.ret ⟨.inr rfl, by rfl, ?_⟩
       simp only [Try.f8, resA, resOne, toT, fin, exa, beq_self_eq_true, ByteArray.size, Nat.reduceAdd, Nat.reduceLeDiff, Nat.reduceEqDiff, Nat.reduceMul, Int.reduceToNat, reduceIte, Int.reduceLE, Int.reduceNeg]
       try rfl
end V
end Go.Proofs.Ytmhchhmhpoldhaa
end
section
set_option linter.unusedVariables false
set_option linter.unusedSimpArgs false
namespace Go.Proofs.Ytmhchhmhpoldhaa
open Go.ChangeShapes Go.WideShapes Go.ChangeAt Go.RowKit
open Go.ChangeMaps (open_string shut_string)
open V
set_option maxRecDepth 100000 in
theorem flowMore_lifted (os : Os) (started : os.Started) (H : Type) (enc : TypeId × Value → H) :
  ReturnsInHanded {} Try.checked os 8 .any (Rows.flowMoreSpec.pre6 enc Try.prog Try.f8 Rows.flowMoreRow.domain false) (Rows.flowMoreSpec.post enc Try.prog Try.f8 false true false false) := by
 refine returnsInHanded_of_change_shaped (C := Try.checked) own started (by kernel_rfl) Try.func8
  (ChangeSpec.witness6 (enc := enc) (C := Try.checked) false ⟨#[], #[.int .i64 0, .slice none 0 0, .slice none 0 0, .slice none 0 0, .int .i64 0], []⟩ 8 (by kernel_rfl) (by kernel_rfl) (by kernel_rfl) (by kernel_rfl)) ?_
 intro W base args ds gs before hval0 hW hcnd hsz0 hsh _
 have hval : ∀ (j : Nat) t v, Try.f8.params[j]? = some t → args[j]? = some v → Value.okWide Try.prog W .any base t v := hval0
 have hW' := hW
 obtain ⟨p, q, hA0, hV, rfl, hfz, hnd⟩ := hW
 have hA : DataW.TrodAll enc Try.prog W 0 (fun _ => true) true Try.f8.params.toList args.toList ds p := hA0
 have hsz : ∀ n ∈ DataW.weightsEach Try.prog (Try.f8.params.toList ++ Rows.flowMoreSpec.plain.varTypes Try.prog) (ds ++ gs), n ≤ reachBytes := fun n hn => of_decide_eq_true (List.all_eq_true.1 hsz0 n hn)
 rw [Try.params8] at hA hval hsz
 clear hsz0
 obtain ⟨v0, vs0, d0, ds0, p0, q0, hargs, rfl, rfl, h0, r0⟩ := trodAll_cons hA
 obtain ⟨v1, vs1, d1, ds1, p1, q1, rfl, rfl, rfl, h1, r1⟩ := trodAll_cons r0
 obtain ⟨v2, vs2, d2, ds2, p2, q2, rfl, rfl, rfl, h2, r2⟩ := trodAll_cons r1
 obtain ⟨v3, vs3, d3, ds3, p3, q3, rfl, rfl, rfl, h3, r3⟩ := trodAll_cons r2
 obtain ⟨v4, vs4, d4, ds4, p4, q4, rfl, rfl, rfl, h4, r4⟩ := trodAll_cons r3
 obtain ⟨rfl, rfl, rfl⟩ := trodAll_nil r4
 obtain rfl : args = #[v0, v1, v2, v3, v4] := by cases args; simp_all
 obtain ⟨rfl, rfl⟩ := trodVars_none hV
 clear hA0 hval0
 simp only [List.append_nil] at hW'
 have k0 := h0
 have lt0 : ∀ x ∈ p0, x.block < W.heap.size := by obtain ⟨m, hm⟩ := k0; exact DataW.trod_lt m _ _ _ hm
 have k1 := h1
 have lt1 : ∀ x ∈ p1, x.block < W.heap.size := by obtain ⟨m, hm⟩ := k1; exact DataW.trod_lt m _ _ _ hm
 have k2 := h2
 have lt2 : ∀ x ∈ p2, x.block < W.heap.size := by obtain ⟨m, hm⟩ := k2; exact DataW.trod_lt m _ _ _ hm
 have k3 := h3
 have lt3 : ∀ x ∈ p3, x.block < W.heap.size := by obtain ⟨m, hm⟩ := k3; exact DataW.trod_lt m _ _ _ hm
 have k4 := h4
 have lt4 : ∀ x ∈ p4, x.block < W.heap.size := by obtain ⟨m, hm⟩ := k4; exact DataW.trod_lt m _ _ _ hm
 have fit0 : Fits Try.prog 3 d0 := fun n hn => hsz n (DataW.weights_mem_each (j := 0) rfl rfl n hn)
 have fit1 : Fits Try.prog 22 d1 := fun n hn => hsz n (DataW.weights_mem_each (j := 1) rfl rfl n hn)
 obtain ⟨z0, rfl⟩ := okWide_int Try.underlying3 (hval 0 3 v0 rfl rfl)
 obtain ⟨rn0, h0⟩ := h0
 obtain ⟨ra0, re0, wf0⟩ := read_int h0
 obtain rfl : ra0 = z0 := by simpa [Value.cells] using re0.symm
 have fit2 : Fits Try.prog 22 d2 := fun n hn => hsz n (DataW.weights_mem_each (j := 2) rfl rfl n hn)
 have fit3 : Fits Try.prog 23 d3 := fun n hn => hsz n (DataW.weights_mem_each (j := 3) rfl rfl n hn)
 have fit4 : Fits Try.prog 3 d4 := fun n hn => hsz n (DataW.weights_mem_each (j := 4) rfl rfl n hn)
 obtain ⟨sa1, sn1, sc1, rfl⟩ := okWide_slice Try.underlying22 (hval 1 22 v1 rfl rfl)
 obtain ⟨rn1, h1⟩ := h1
 obtain ⟨rv1, l1, re1, R1⟩ := read_qs fit1 h1
 obtain rfl : rv1 = _ := by simpa [Value.cells] using re1.symm
 obtain ⟨sa2, sn2, sc2, rfl⟩ := okWide_slice Try.underlying22 (hval 2 22 v2 rfl rfl)
 obtain ⟨rn2, h2⟩ := h2
 obtain ⟨rv2, l2, re2, R2⟩ := read_qs fit2 h2
 obtain rfl : rv2 = _ := by simpa [Value.cells] using re2.symm
 obtain ⟨sa3, sn3, sc3, rfl⟩ := okWide_slice Try.underlying23 (hval 3 23 v3 rfl rfl)
 obtain ⟨rn3, h3⟩ := h3
 obtain ⟨rv3, l3, re3, R3⟩ := read_ints fit3 h3
 obtain rfl : rv3 = _ := by simpa [Value.cells] using re3.symm
 obtain ⟨z4, rfl⟩ := okWide_int Try.underlying3 (hval 4 3 v4 rfl rfl)
 obtain ⟨rn4, h4⟩ := h4
 obtain ⟨ra4, re4, wf4⟩ := read_int h4
 obtain rfl : ra4 = z4 := by simpa [Value.cells] using re4.symm
 refine (cok_true (vals := [_, _, _, _, _]) (lawMore24_ok ra0 l1 l2 l3 ra4 _) trivial (fun B => ⟨rv_int wf0, rv_qs R1, rv_qs R2, rv_ints R3, rv_int wf4, trivial⟩)).mono fun e W' ⟨he, bel⟩ => ?_
 subst he
 exact ⟨_, rfl, _, _, _, [], _, [], hW', trodAll_mk1 (shut_bool Try.underlying4 _), trodAll_cons_mk (Below.trod laidOut (by kernel_rfl) (of_decide_eq_true (by kernel_rfl)) k0 bel lt0) (trodAll_cons_mk (Below.trod laidOut (by kernel_rfl) (of_decide_eq_true (by kernel_rfl)) k1 bel lt1) (trodAll_cons_mk (Below.trod laidOut (by kernel_rfl) (of_decide_eq_true (by kernel_rfl)) k2 bel lt2) (trodAll_cons_mk (Below.trod laidOut (by kernel_rfl) (of_decide_eq_true (by kernel_rfl)) k3 bel lt3) (trodAll_cons_mk (Below.trod laidOut (by kernel_rfl) (of_decide_eq_true (by kernel_rfl)) k4 bel lt4) trodAll_mk0)))), rfl, bel.frame _, fun h => by cases h⟩
theorem flowMore_holds : Rows.FlowMoreSaid :=
 OpenClaim.holds_of_wide 8 Try.f8 rfl rfl rfl rfl rfl rfl rfl ⟨rfl, rfl, rfl, rfl, rfl⟩ rfl rfl rfl rfl rfl (by kernel_rfl) Try.func8 (by kernel_rfl)
  (of_decide_eq_true (by kernel_rfl)) (by unfold Func.isWrapper; first | (rw [if_pos (by decide +kernel)]; kernel_rfl) | (rw [if_neg (by decide +kernel)]; exact ⟨rfl, rfl⟩))
  (fun os started H enc _ => flowMore_lifted os started H enc)
end Go.Proofs.Ytmhchhmhpoldhaa
end
section
namespace Go.Proofs.Ytmhchhmhpoldhaa
end Go.Proofs.Ytmhchhmhpoldhaa
end
