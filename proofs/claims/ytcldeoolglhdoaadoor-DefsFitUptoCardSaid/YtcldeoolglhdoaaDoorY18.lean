/- Joined by my own program, in build order: May, Mar, NxE, Cn, DQ, Cms, RU, Sf, SfR, SC, EL, Bs. -/
import Derived.Test.YtcldeoolglhdoaaDoorY17
import Derived.Shelf.GgSortFunc.InsertionK
import Derived.Sort.Row
import Derived.Sort.Grow
import Derived.Test.YtcldeoolglhdoaaDoorY7
import Derived.Test.YtcldeoolglhdoaaDoorY9
import Derived.Test.YtcldeoolglhdoaaDoorY11
import Derived.Test.YtcldeoolglhdoaaDoorY6
import Derived.Lib.SlicesCompact
import Derived.Test.YtcldeoolglhdoaaDoorY12
set_option linter.unusedVariables false
set_option linter.unusedSimpArgs false
section
set_option linter.unusedVariables false
set_option linter.unusedSimpArgs false
namespace Go.Proofs.YtcldeoolglhdoaaDoor
namespace V
open Go.RowKit G C17 D18
theorem may11_ok (n k : Int) (m : Mem) : COk Tryd.prog 32 [.c (.int .i64 k), .rptr [.int .i64 n]] m (.c (.bool (outI n k))) := by
  refine (ok_pure tab_ok Tryd.func32 (by kernel_rfl) rfl rfl (by rfl) (by rfl) (by rfl) (fun R hkeep => ?_) m)
  by_cases h1 : k < 0
  · have q := eq_true h1
    repeat (first | refine W.seq ?_ | refine W.block ?_ | refine W.skip ?_ | refine W.exit ?_ | refine W.region tab_ok 0 (by decide) (exec_run (by simp only [exa, beq_self_eq_true, ByteArray.size, Nat.reduceAdd, Nat.reduceLeDiff, Nat.reduceEqDiff, Nat.reduceMul, Int.reduceToNat, reduceIte, Int.reduceLE, Int.reduceNeg, q, decide_true]; rfl)) ?_)
    refine W.ret ⟨.inr rfl, by rfl, ?_⟩
    simp only [Tryd.f32, resA, resOne, toT, fin, exa, beq_self_eq_true, ByteArray.size, Nat.reduceAdd, Nat.reduceLeDiff, Nat.reduceEqDiff, Nat.reduceMul, Int.reduceToNat, reduceIte, Int.reduceLE, Int.reduceNeg, q]
    simp [outI, h1]
  · have q := eq_false h1
    repeat (first | refine W.seq ?_ | refine W.block ?_ | refine W.skip ?_ | refine W.exit ?_ | refine W.region tab_ok 0 (by decide) (exec_run (by simp only [exa, beq_self_eq_true, ByteArray.size, Nat.reduceAdd, Nat.reduceLeDiff, Nat.reduceEqDiff, Nat.reduceMul, Int.reduceToNat, reduceIte, Int.reduceLE, Int.reduceNeg, q, decide_false]; rfl)) ?_)
    refine W.ret ⟨.inr rfl, by rfl, ?_⟩
    simp only [Tryd.f32, resA, resOne, toT, fin, exa, beq_self_eq_true, ByteArray.size, Nat.reduceAdd, Nat.reduceLeDiff, Nat.reduceEqDiff, Nat.reduceMul, Int.reduceToNat, reduceIte, Int.reduceLE, Int.reduceNeg, q]
    simp [outI, h1]
theorem may1_ok (n : Int) (M : Mem) (b : Nat) (hM : ∀ d, M (b + d) = none) : CallE Tryd.prog 31 [.c (.int .i64 n)] M [] (.fn 32 [b + 1]) (upd M (b + 1) (some (.box 3 [.c (.int .i64 n)]))) := by
  refine (ok_eff tab_ok [] Tryd.func31 (by kernel_rfl) rfl rfl (by rfl) (by rfl) ?ids ?res ?sub ?wfm (fun hWF Rr hkeep => ?_))
  case ids => intro a ha j hj; simp at ha; subst ha; simp [A.ids] at hj
  case res => intro j hj; simp [A.ids] at hj; subst hj; rw [upd_same]; rfl
  case sub => exact fun j hj => live_upd j hj
  case wfm => exact fun hw => mwf_some hw (fun i hi => by simp [O.ids, A.ids] at hi)
  repeat (first | refine W.seq ?_ | refine W.block ?_ | refine W.skip ?_ | refine W.exit ?_ | refine W.region tab_ok b (by decide) (exec_run (by simp only [exa, beq_self_eq_true, ByteArray.size, Nat.reduceAdd, Nat.reduceLeDiff, Nat.reduceEqDiff, Nat.reduceMul, Int.reduceToNat, reduceIte, Int.reduceLE, Int.reduceNeg, hM 1]; rfl)) ?_)
  refine W.ret ⟨.inr rfl, by rfl, ?_, ?mle⟩
  simp only [Tryd.f31, resE, resOne, fin, toT, exa, beq_self_eq_true, ByteArray.size, Nat.reduceAdd, Nat.reduceLeDiff, Nat.reduceEqDiff, Nat.reduceMul, Int.reduceToNat, reduceIte, Int.reduceLE, Int.reduceNeg]
  case mle => exact mle_refl _
def rgI (x : Ins) : List Int := usI x ++ (if hasD x.kind = true then [x.dst] else [])
theorem ins_bad {n R : Int} {code : List Ins} {i : Nat} {x : Ins} (hx : code[i]? = some x) : insB n R code i = (!((nx code i).any (outI n)) && !((rgI x).any (outI R))) := by
  unfold insB rgI
  rw [hx, List.any_append]
  cases h : hasD x.kind <;> simp [h]
theorem usI_len (x : Ins) : (usI x).length ≤ x.args.length + 3 := by
  unfold usI
  rw [List.length_append, List.length_append, List.length_append]
  have h1 : ∀ (b : Bool) (z : Int), (if b = true then [z] else []).length ≤ 1 := fun b z => by cases b <;> simp
  have h2 : (if hasR x.kind = true then x.args else []).length ≤ x.args.length := by split <;> simp
  have := h1 (hasA x.kind) x.a
  have := h1 (hasB x.kind) x.b
  have := h1 (hasC x.kind) x.c
  omega
theorem allno {p : Nat → Bool} {n i : Nat} (h : i < n) (hp : p i = false) : (List.range n).all p = false := by
  rw [List.all_eq_false]
  exact ⟨i, List.mem_range.2 h, by simp [hp]⟩
set_option maxHeartbeats 8000000 in
theorem may_ok (p : Prc) (hpl : p.code.length ≤ 1000000000000000) (hargs : ∀ x ∈ p.code, x.args.length ≤ 1000000000) (m : Mem) : COk Tryd.prog 17 [.agg (cP p)] m (.c (.bool (okD p.code p.regs))) := by
  have hnx := fun i (hi : i ≤ p.code.length) m => irNext_ok p i hpl hi m
  obtain ⟨cls, name, params, regs, code⟩ := p
  simp only at hpl hnx hargs ⊢
  have hcp : cP ⟨cls, name, params, regs, code⟩ = [.str cls, .str name, .int .i64 params, .int .i64 regs, .sl (code.map cIns)] := rfl
  refine (ok_pure tab_ok Tryd.func17 (by kernel_rfl) rfl rfl (by rfl) (by rfl) (by rfl) (fun R hkeep => ?_) m)
  (repeat (first | refine W.seq ?_ | refine W.block ?_ | refine W.skip ?_ | refine W.exit ?_))
  refine W.region tab_ok 0 (by decide) (exec_run (by simp only [exa, beq_self_eq_true, ByteArray.size, Nat.reduceAdd, Nat.reduceLeDiff, Nat.reduceEqDiff, Nat.reduceMul, Int.reduceToNat, reduceIte, Int.reduceLE, Int.reduceNeg, hcp, List.map_cons, List.map_nil]; rfl)) ?_
  (repeat (first | refine W.seq ?_ | refine W.block ?_ | refine W.skip ?_ | refine W.exit ?_))
  refine W.region tab_ok 0 (by decide) (exec_run (by simp only [exa, beq_self_eq_true, ByteArray.size, Nat.reduceAdd, Nat.reduceLeDiff, Nat.reduceEqDiff, Nat.reduceMul, Int.reduceToNat, reduceIte, Int.reduceLE, Int.reduceNeg, List.length_map]; rfl)) ?_
  by_cases h0 : (code.length : Int) = 0
  · have q := eq_true h0
    have e : okD code regs = false := by unfold okD; rw [show decide (1 ≤ code.length) = false from decide_eq_false (by omega)]; rfl
    repeat (first | refine W.seq ?_ | refine W.block ?_ | refine W.skip ?_ | refine W.exit ?_ | refine W.region tab_ok 0 (by decide) (exec_run (by simp only [exa, beq_self_eq_true, ByteArray.size, Nat.reduceAdd, Nat.reduceLeDiff, Nat.reduceEqDiff, Nat.reduceMul, Int.reduceToNat, reduceIte, Int.reduceLE, Int.reduceNeg, q, decide_true]; rfl)) ?_)
    refine W.cond rfl (fun _ => ?_) (fun h => absurd h (by simp))
    repeat (first | refine W.seq ?_ | refine W.block ?_ | refine W.skip ?_ | refine W.exit ?_ | refine W.region tab_ok 0 (by decide) (exec_run (by simp only [exa, beq_self_eq_true, ByteArray.size, Nat.reduceAdd, Nat.reduceLeDiff, Nat.reduceEqDiff, Nat.reduceMul, Int.reduceToNat, reduceIte, Int.reduceLE, Int.reduceNeg]; rfl)) ?_)
    refine W.ret ⟨.inr rfl, by rfl, ?_⟩
    simp only [Tryd.f17, resA, resOne, toT, fin, exa, beq_self_eq_true, ByteArray.size, Nat.reduceAdd, Nat.reduceLeDiff, Nat.reduceEqDiff, Nat.reduceMul, Int.reduceToNat, reduceIte, Int.reduceLE, Int.reduceNeg, e]
  have q0 := eq_false h0
  by_cases h1 : (2000 : Int) < code.length
  · have q := eq_true h1
    have e : okD code regs = false := by unfold okD; rw [show decide (code.length ≤ 2000) = false from decide_eq_false (by omega)]; simp
    repeat (first | refine W.seq ?_ | refine W.block ?_ | refine W.skip ?_ | refine W.exit ?_ | refine W.region tab_ok 0 (by decide) (exec_run (by simp only [exa, beq_self_eq_true, ByteArray.size, Nat.reduceAdd, Nat.reduceLeDiff, Nat.reduceEqDiff, Nat.reduceMul, Int.reduceToNat, reduceIte, Int.reduceLE, Int.reduceNeg, q0, q, decide_true, decide_false]; rfl)) ?_)
    refine W.cond rfl (fun _ => ?_) (fun h => absurd h (by simp))
    repeat (first | refine W.seq ?_ | refine W.block ?_ | refine W.skip ?_ | refine W.exit ?_ | refine W.region tab_ok 0 (by decide) (exec_run (by simp only [exa, beq_self_eq_true, ByteArray.size, Nat.reduceAdd, Nat.reduceLeDiff, Nat.reduceEqDiff, Nat.reduceMul, Int.reduceToNat, reduceIte, Int.reduceLE, Int.reduceNeg]; rfl)) ?_)
    refine W.ret ⟨.inr rfl, by rfl, ?_⟩
    simp only [Tryd.f17, resA, resOne, toT, fin, exa, beq_self_eq_true, ByteArray.size, Nat.reduceAdd, Nat.reduceLeDiff, Nat.reduceEqDiff, Nat.reduceMul, Int.reduceToNat, reduceIte, Int.reduceLE, Int.reduceNeg, e]
  have q1 := eq_false h1
  by_cases h2 : regs < 0
  · have q := eq_true h2
    have e : okD code regs = false := by unfold okD; rw [show decide (0 ≤ regs) = false from decide_eq_false (by omega)]; simp
    repeat (first | refine W.seq ?_ | refine W.block ?_ | refine W.skip ?_ | refine W.exit ?_ | refine W.region tab_ok 0 (by decide) (exec_run (by simp only [exa, beq_self_eq_true, ByteArray.size, Nat.reduceAdd, Nat.reduceLeDiff, Nat.reduceEqDiff, Nat.reduceMul, Int.reduceToNat, reduceIte, Int.reduceLE, Int.reduceNeg, q0, q1, q, decide_true, decide_false]; rfl)) ?_)
    refine W.cond rfl (fun _ => ?_) (fun h => absurd h (by simp))
    repeat (first | refine W.seq ?_ | refine W.block ?_ | refine W.skip ?_ | refine W.exit ?_ | refine W.region tab_ok 0 (by decide) (exec_run (by simp only [exa, beq_self_eq_true, ByteArray.size, Nat.reduceAdd, Nat.reduceLeDiff, Nat.reduceEqDiff, Nat.reduceMul, Int.reduceToNat, reduceIte, Int.reduceLE, Int.reduceNeg]; rfl)) ?_)
    refine W.ret ⟨.inr rfl, by rfl, ?_⟩
    simp only [Tryd.f17, resA, resOne, toT, fin, exa, beq_self_eq_true, ByteArray.size, Nat.reduceAdd, Nat.reduceLeDiff, Nat.reduceEqDiff, Nat.reduceMul, Int.reduceToNat, reduceIte, Int.reduceLE, Int.reduceNeg, e]
  have q2 := eq_false h2
  by_cases h3 : (10000 : Int) < regs
  · have q := eq_true h3
    have e : okD code regs = false := by unfold okD; rw [show decide (regs ≤ 10000) = false from decide_eq_false (by omega)]; simp
    repeat (first | refine W.seq ?_ | refine W.block ?_ | refine W.skip ?_ | refine W.exit ?_ | refine W.region tab_ok 0 (by decide) (exec_run (by simp only [exa, beq_self_eq_true, ByteArray.size, Nat.reduceAdd, Nat.reduceLeDiff, Nat.reduceEqDiff, Nat.reduceMul, Int.reduceToNat, reduceIte, Int.reduceLE, Int.reduceNeg, q0, q1, q2, q, decide_true, decide_false]; rfl)) ?_)
    refine W.cond rfl (fun _ => ?_) (fun h => absurd h (by simp))
    repeat (first | refine W.seq ?_ | refine W.block ?_ | refine W.skip ?_ | refine W.exit ?_ | refine W.region tab_ok 0 (by decide) (exec_run (by simp only [exa, beq_self_eq_true, ByteArray.size, Nat.reduceAdd, Nat.reduceLeDiff, Nat.reduceEqDiff, Nat.reduceMul, Int.reduceToNat, reduceIte, Int.reduceLE, Int.reduceNeg]; rfl)) ?_)
    refine W.ret ⟨.inr rfl, by rfl, ?_⟩
    simp only [Tryd.f17, resA, resOne, toT, fin, exa, beq_self_eq_true, ByteArray.size, Nat.reduceAdd, Nat.reduceLeDiff, Nat.reduceEqDiff, Nat.reduceMul, Int.reduceToNat, reduceIte, Int.reduceLE, Int.reduceNeg, e]
  have q3 := eq_false h3
  have hall : okD code regs = (List.range code.length).all (insB code.length regs code) := by
    unfold okD
    rw [decide_eq_true (show 1 ≤ code.length by omega), decide_eq_true (show code.length ≤ 2000 by omega), decide_eq_true (show 0 ≤ regs by omega), decide_eq_true (show regs ≤ 10000 by omega)]
    rfl
  repeat (first | refine W.seq ?_ | refine W.block ?_ | refine W.skip ?_ | refine W.exit ?_ | refine W.region tab_ok 0 (by decide) (exec_run (by simp only [exa, beq_self_eq_true, ByteArray.size, Nat.reduceAdd, Nat.reduceLeDiff, Nat.reduceEqDiff, Nat.reduceMul, Int.reduceToNat, reduceIte, Int.reduceLE, Int.reduceNeg, q0, q1, q2, q3, decide_true, decide_false]; rfl)) ?_)
  refine W.cond rfl (fun h => absurd h (by simp)) (fun _ => ?_)
  repeat (first | refine W.seq ?_ | refine W.block ?_ | refine W.skip ?_ | refine W.exit ?_ | refine W.region tab_ok 0 (by decide) (exec_run (by simp only [exa, beq_self_eq_true, ByteArray.size, Nat.reduceAdd, Nat.reduceLeDiff, Nat.reduceEqDiff, Nat.reduceMul, Int.reduceToNat, reduceIte, Int.reduceLE, Int.reduceNeg, List.length_map]; rfl)) ?_)
  refine W.loop (ι := Nat) (fun i => ⟨upd (upd (upd (upd (upd (fun _ => .top) 1 (.ptr 1 0)) 3 (.c (.int .i64 code.length))) 28 (.c (.sl (code.map cIns)))) 29 (.c (.int .i64 code.length))) 30 (.c (.int .i64 i)),
    upd Mem.nil 1 (some (.box 24 [.c (.str cls), .c (.str name), .c (.int .i64 params), .c (.int .i64 regs), .c (.sl (code.map cIns))]))⟩) (fun i => i ≤ code.length ∧ (List.range i).all (insB code.length regs code) = true) (fun i => code.length - i) 0 ?start ⟨Nat.zero_le _, rfl⟩ ?round
  case start =>
    refine le_mk ?sle ?mle ?swf ?mwf (kept_not hkeep) (by rfl)
    case swf => repeat (first | exact swf_top _ | refine swf_upd ?_ (by simp [A.ids, upd_app]))
    case mwf => repeat (first | exact mwf_nil _ | refine mwf_upd ?_ (by simp [A.ids, O.ids, upd_app]))
    case mle => repeat (first | exact mle_nil _ | exact mle_refl _ | refine mle_upd ?_ (by first | rfl | (simp only [upd_app, killM_app, O.kill, A.kill, Nat.reduceEqDiff, reduceIte, Option.map_some, Option.map_none, List.map_cons, List.map_nil]; done)))
    case sle => repeat (first | exact sle_top _ | exact sle_refl _ | refine sle_upd ?_ (by first | rfl | (simp only [upd_app, killS_app, A.kill, entry_zero, entry_succ, Nat.reduceEqDiff, reduceIte]; done)))
  case round =>
    rintro i ⟨hil, hin⟩
    repeat (first | refine W.seq ?_ | refine W.block ?_ | refine W.skip ?_ | refine W.exit ?_ | refine W.region tab_ok 0 (by decide) (exec_run (by simp only [exa, beq_self_eq_true, ByteArray.size, Nat.reduceAdd, Nat.reduceLeDiff, Nat.reduceEqDiff, Nat.reduceMul, Int.reduceToNat, reduceIte, Int.reduceLE, Int.reduceNeg]; rfl)) ?_)
    refine W.cond rfl ?_ ?_
    · intro hlt
      simp only [decide_eq_true_eq, Int.ofNat_lt] at hlt
      obtain ⟨x, hx⟩ : ∃ x, code[i]? = some x := ⟨_, List.getElem?_eq_getElem hlt⟩
      have hax := hargs x (List.mem_of_getElem? hx)
      have hbad := ins_bad (n := code.length) (R := regs) hx
      have hxc : cIns x = [.int .i64 x.kind, .int .i64 x.dst, .int .i64 x.a, .int .i64 x.b, .int .i64 x.c, .int .i64 x.tt, .int .i64 x.els, .int .i64 x.num, .str x.name, .sl (x.args.map fun z => [C.int .i64 z])] := rfl
      repeat (first | refine W.seq ?_ | refine W.block ?_ | refine W.skip ?_ | refine W.exit ?_ | refine W.region tab_ok 0 (by decide) (exec_run (by simp only [exa, beq_self_eq_true, ByteArray.size, Nat.reduceAdd, Nat.reduceLeDiff, Nat.reduceEqDiff, Nat.reduceMul, Int.reduceToNat, reduceIte, Int.reduceLE, Int.reduceNeg, at_map hx, hxc]; rfl)) ?_)
      have hnxi := hnx i (by omega)
      have hnl : (nx code i).length ≤ 1000000000000 := by have := nx_len code i; omega
      have hul := usI_len x
      have hrl : (rgI x).length ≤ 1000000000000 := by
        unfold rgI
        rw [List.length_append]
        split <;> simp <;> omega
      have hm1 := fun M hM => may1_ok code.length M 70 hM
      have hm2 := fun M hM => may1_ok regs M 80 hM
      simp only [Nat.reduceAdd] at hm1 hm2
      have hus := fun M hM => usesE_ok x (by omega) M 60 hM
      have hdf := fun m => def_ok ⟨x.kind, 0, 0, 0, 0, 0, 0, 0, ⟨#[]⟩, []⟩ m
      have hdk : cIns ⟨x.kind, 0, 0, 0, 0, 0, 0, 0, ⟨#[]⟩, []⟩ = [.int .i64 x.kind, .int .i64 0, .int .i64 0, .int .i64 0, .int .i64 0, .int .i64 0, .int .i64 0, .int .i64 0, .str ⟨#[]⟩, .sl []] := rfl
      have hdv : dfI ⟨x.kind, 0, 0, 0, 0, 0, 0, 0, ⟨#[]⟩, []⟩ = if hasD x.kind = true then 0 else -1 := rfl
      rw [hdk, hdv] at hdf
      rw [hxc] at hus
      (repeat (first | refine W.seq ?_ | refine W.block ?_ | refine W.skip ?_ | refine W.exit ?_))
      refine W.regionK tab_ok 0 (by decide) ?_
      refine runk_split 1 (by simp only [exa, beq_self_eq_true, ByteArray.size, Nat.reduceAdd, Nat.reduceLeDiff, Nat.reduceEqDiff, Nat.reduceMul, Int.reduceToNat, reduceIte, Int.reduceLE, Int.reduceNeg, hxc]; rfl) ?_
      refine runk_callE (D := []) rfl rfl rfl rfl rfl (fun j hj => by simp at hj) (by simp) (cvs_cons cv_refl cvs_nil) (hus _ rfl) ?_
      simp only [killL, putS, upd_upd]
      refine runk_exec (by simp only [exa, beq_self_eq_true, ByteArray.size, Nat.reduceAdd, Nat.reduceLeDiff, Nat.reduceEqDiff, Nat.reduceMul, Int.reduceToNat, reduceIte, Int.reduceLE, Int.reduceNeg]; rfl) ?_
      (repeat (first | refine W.seq ?_ | refine W.block ?_ | refine W.skip ?_ | refine W.exit ?_))
      cases hd : hasD x.kind with
      | true =>
        have hk0 : ¬ x.kind = 0 := fun e => by rw [e] at hd; simp [hasD] at hd
        have hk := eq_false hk0
        rw [hd, if_pos rfl] at hdf
        refine W.regionK tab_ok 0 (by decide) ?_
        refine runk_split 7 (by simp only [exa, beq_self_eq_true, ByteArray.size, Nat.reduceAdd, Nat.reduceLeDiff, Nat.reduceEqDiff, Nat.reduceMul, Int.reduceToNat, reduceIte, Int.reduceLE, Int.reduceNeg, hk, decide_false, Bool.not_false, not_false_eq_true, decide_true]; rfl) ?_
        refine runk_call rfl rfl rfl rfl rfl (by simp) (cvs_cons cv_refl cvs_nil) (hdf _) ?_
        refine runk_exec (by simp only [exa, beq_self_eq_true, ByteArray.size, Nat.reduceAdd, Nat.reduceLeDiff, Nat.reduceEqDiff, Nat.reduceMul, Int.reduceToNat, reduceIte, Int.reduceLE, Int.reduceNeg, hk, decide_false, Bool.not_false, not_false_eq_true, decide_true, eq_self]; rfl) ?_
        refine W.cond rfl (fun _ => ?_) (fun h => absurd h (by simp))
        (repeat (first | refine W.seq ?_ | refine W.block ?_ | refine W.skip ?_ | refine W.exit ?_))
        refine W.regionK tab_ok 0 (by decide) ?_
        refine runk_split 4 (by simp only [exa, beq_self_eq_true, ByteArray.size, Nat.reduceAdd, Nat.reduceLeDiff, Nat.reduceEqDiff, Nat.reduceMul, Int.reduceToNat, reduceIte, Int.reduceLE, Int.reduceNeg]; rfl) ?_
        refine runk_append tab_ok 60 rfl rfl rfl rfl rfl rfl rfl rfl (by first | rfl | (simp only [exa, beq_self_eq_true, ByteArray.size, Nat.reduceAdd, Nat.reduceLeDiff, Nat.reduceEqDiff, Nat.reduceMul, Int.reduceToNat, reduceIte, Int.reduceLE, Int.reduceNeg]; rfl)) rfl rfl rfl rfl (nokeep hkeep) (by intro z hz; simp at hz; subst hz; rfl) (by simp only [List.length_map, List.length_append, List.length_cons, List.length_nil]; omega) (by decide) ?_
        refine runk_exec (by simp only [exa, beq_self_eq_true, ByteArray.size, Nat.reduceAdd, Nat.reduceLeDiff, Nat.reduceEqDiff, Nat.reduceMul, Int.reduceToNat, reduceIte, Int.reduceLE, Int.reduceNeg]; rfl) ?_
        have hrg : (usI x).map cZ ++ [[C.int .i64 x.dst]] = (rgI x).map cZ := by simp [rgI, hd, cZ]
        rw [hrg]
        (repeat (first | refine W.seq ?_ | refine W.block ?_ | refine W.skip ?_ | refine W.exit ?_))
        refine W.regionK tab_ok 0 (by decide) ?_
        refine runk_split 2 (by simp only [exa, beq_self_eq_true, ByteArray.size, Nat.reduceAdd, Nat.reduceLeDiff, Nat.reduceEqDiff, Nat.reduceMul, Int.reduceToNat, reduceIte, Int.reduceLE, Int.reduceNeg, hcp, List.map_cons, List.map_nil]; rfl) ?_
        refine runk_call rfl rfl rfl rfl rfl (by simp) (cvs_cons cv_refl (cvs_cons cv_refl cvs_nil)) (hnxi _) ?_
        refine runk_split 2 (by simp only [exa, beq_self_eq_true, ByteArray.size, Nat.reduceAdd, Nat.reduceLeDiff, Nat.reduceEqDiff, Nat.reduceMul, Int.reduceToNat, reduceIte, Int.reduceLE, Int.reduceNeg]; rfl) ?_
        refine runk_callE (D := []) rfl rfl rfl rfl rfl (fun j hj => by simp at hj) (by simp) (cvs_cons cv_refl cvs_nil) (hm1 _ (fun d => by simp only [upd_app, killM_app, mem_nil_app]; (repeat (rw [if_neg (by omega)])); first | done | rfl)) ?_
        simp only [killL, putS, upd_upd]
        refine runk_split 0 (by simp only [exa, beq_self_eq_true, ByteArray.size, Nat.reduceAdd, Nat.reduceLeDiff, Nat.reduceEqDiff, Nat.reduceMul, Int.reduceToNat, reduceIte, Int.reduceLE, Int.reduceNeg]; rfl) ?_
        refine runk_callR rfl rfl rfl rfl rfl (by simp) (cvrs_cons cvr_refl (cvrs_cons (cvr_fn (caps_one rfl rfl)) cvrs_nil)) (by rfl) (by rfl) (anyInt_ok (nx code i) 32 [[.int .i64 code.length]] (outI code.length) hnl (fun z _ m => may11_ok code.length z m)) ?_
        cases ha : (nx code i).any (outI code.length) with
        | true =>
          have hbd : insB code.length regs code i = false := by rw [hbad, ha]; rfl
          refine runk_exec (by simp only [exa, beq_self_eq_true, ByteArray.size, Nat.reduceAdd, Nat.reduceLeDiff, Nat.reduceEqDiff, Nat.reduceMul, Int.reduceToNat, reduceIte, Int.reduceLE, Int.reduceNeg, ha, Bool.not_true]; rfl) ?_
          refine W.cond rfl (fun _ => ?_) (fun h => absurd h (by simp))
          repeat (first | refine W.seq ?_ | refine W.block ?_ | refine W.skip ?_ | refine W.exit ?_ | refine W.region tab_ok 0 (by decide) (exec_run (by simp only [exa, beq_self_eq_true, ByteArray.size, Nat.reduceAdd, Nat.reduceLeDiff, Nat.reduceEqDiff, Nat.reduceMul, Int.reduceToNat, reduceIte, Int.reduceLE, Int.reduceNeg]; rfl)) ?_)
          refine W.ret ⟨.inr rfl, by rfl, ?_⟩
          simp only [Tryd.f17, resA, resOne, toT, fin, exa, beq_self_eq_true, ByteArray.size, Nat.reduceAdd, Nat.reduceLeDiff, Nat.reduceEqDiff, Nat.reduceMul, Int.reduceToNat, reduceIte, Int.reduceLE, Int.reduceNeg]
          rw [hall, allno hlt hbd]
        | false =>
          refine runk_split 5 (by simp only [exa, beq_self_eq_true, ByteArray.size, Nat.reduceAdd, Nat.reduceLeDiff, Nat.reduceEqDiff, Nat.reduceMul, Int.reduceToNat, reduceIte, Int.reduceLE, Int.reduceNeg, ha, Bool.not_false]; rfl) ?_
          refine runk_callE (D := []) rfl rfl rfl rfl rfl (fun j hj => by simp at hj) (by simp) (cvs_cons cv_refl cvs_nil) (hm2 _ (fun d => by simp only [upd_app, killM_app, mem_nil_app]; (repeat (rw [if_neg (by omega)])); first | done | rfl)) ?_
          simp only [killL, putS, upd_upd]
          refine runk_split 0 (by simp only [exa, beq_self_eq_true, ByteArray.size, Nat.reduceAdd, Nat.reduceLeDiff, Nat.reduceEqDiff, Nat.reduceMul, Int.reduceToNat, reduceIte, Int.reduceLE, Int.reduceNeg]; rfl) ?_
          refine runk_callR rfl rfl rfl rfl rfl (by simp) (cvrs_cons (cvr_cv (.inr (.inr ⟨_, rfl, rfl⟩))) (cvrs_cons (cvr_fn (caps_one rfl rfl)) cvrs_nil)) (by rfl) (by rfl) (anyInt_ok (rgI x) 32 [[.int .i64 regs]] (outI regs) hrl (fun z _ m => may11_ok regs z m)) ?_
          cases hb : (rgI x).any (outI regs) with
          | true =>
            have hbd : insB code.length regs code i = false := by rw [hbad, ha, hb]; rfl
            refine runk_exec (by simp only [exa, beq_self_eq_true, ByteArray.size, Nat.reduceAdd, Nat.reduceLeDiff, Nat.reduceEqDiff, Nat.reduceMul, Int.reduceToNat, reduceIte, Int.reduceLE, Int.reduceNeg, ha, hb]; rfl) ?_
            refine W.cond rfl (fun _ => ?_) (fun h => absurd h (by simp))
            repeat (first | refine W.seq ?_ | refine W.block ?_ | refine W.skip ?_ | refine W.exit ?_ | refine W.region tab_ok 0 (by decide) (exec_run (by simp only [exa, beq_self_eq_true, ByteArray.size, Nat.reduceAdd, Nat.reduceLeDiff, Nat.reduceEqDiff, Nat.reduceMul, Int.reduceToNat, reduceIte, Int.reduceLE, Int.reduceNeg]; rfl)) ?_)
            refine W.ret ⟨.inr rfl, by rfl, ?_⟩
            simp only [Tryd.f17, resA, resOne, toT, fin, exa, beq_self_eq_true, ByteArray.size, Nat.reduceAdd, Nat.reduceLeDiff, Nat.reduceEqDiff, Nat.reduceMul, Int.reduceToNat, reduceIte, Int.reduceLE, Int.reduceNeg]
            rw [hall, allno hlt hbd]
          | false =>
            have hgd : insB code.length regs code i = true := by rw [hbad, ha, hb]; rfl
            refine runk_exec (by simp only [exa, beq_self_eq_true, ByteArray.size, Nat.reduceAdd, Nat.reduceLeDiff, Nat.reduceEqDiff, Nat.reduceMul, Int.reduceToNat, reduceIte, Int.reduceLE, Int.reduceNeg, ha, hb]; rfl) ?_
            refine W.cond rfl (fun h => absurd h (by simp)) (fun _ => ?_)
            repeat (first | refine W.seq ?_ | refine W.block ?_ | refine W.skip ?_ | refine W.exit ?_ | refine W.region tab_ok 0 (by decide) (exec_run (by simp only [exa, beq_self_eq_true, ByteArray.size, Nat.reduceAdd, Nat.reduceLeDiff, Nat.reduceEqDiff, Nat.reduceMul, Int.reduceToNat, reduceIte, Int.reduceLE, Int.reduceNeg]; rfl)) ?_)
            refine ⟨i + 1, ⟨hlt, by rw [List.range_succ, List.all_append, hin]; simp [hgd]⟩, by omega, ?_⟩
            refine le_mk ?sle ?mle ?swf ?mwf (kept_not hkeep) (by rfl)
            case swf => repeat (first | exact swf_top _ | refine swf_upd ?_ (by simp [A.ids, upd_app, wrap_succ (show i + 1 < 9223372036854775808 by omega)]))
            case mwf => repeat (first | exact mwf_nil _ | refine mwf_upd ?_ (by simp [A.ids, O.ids, upd_app, wrap_succ (show i + 1 < 9223372036854775808 by omega)]))
            case mle => repeat (first | exact mle_nil _ | exact mle_refl _ | refine mle_upd ?_ (by first | rfl | (simp only [upd_app, killM_app, O.kill, A.kill, Nat.reduceEqDiff, reduceIte, Option.map_some, Option.map_none, List.map_cons, List.map_nil, wrap_succ (show i + 1 < 9223372036854775808 by omega)]; done)))
            case sle => repeat (first | exact sle_top _ | exact sle_refl _ | refine sle_upd ?_ (by first | rfl | (simp only [upd_app, killS_app, A.kill, entry_zero, entry_succ, Nat.reduceEqDiff, reduceIte, wrap_succ (show i + 1 < 9223372036854775808 by omega)]; done)))
      | false =>
        rw [hd, if_neg (by simp)] at hdf
        have hrg : (usI x).map cZ = (rgI x).map cZ := by simp [rgI, hd]
        by_cases hk0 : x.kind = 0
        · have hk := eq_true hk0
          repeat (first | refine W.seq ?_ | refine W.block ?_ | refine W.skip ?_ | refine W.exit ?_ | refine W.region tab_ok 0 (by decide) (exec_run (by simp only [exa, beq_self_eq_true, ByteArray.size, Nat.reduceAdd, Nat.reduceLeDiff, Nat.reduceEqDiff, Nat.reduceMul, Int.reduceToNat, reduceIte, Int.reduceLE, Int.reduceNeg, hk, decide_true, decide_false, Bool.not_true, not_true_eq_false]; rfl)) ?_)
          refine W.cond rfl (fun h => absurd h (by simp)) (fun _ => ?_)
          rw [hrg]
          (repeat (first | refine W.seq ?_ | refine W.block ?_ | refine W.skip ?_ | refine W.exit ?_))
          refine W.regionK tab_ok 0 (by decide) ?_
          refine runk_split 2 (by simp only [exa, beq_self_eq_true, ByteArray.size, Nat.reduceAdd, Nat.reduceLeDiff, Nat.reduceEqDiff, Nat.reduceMul, Int.reduceToNat, reduceIte, Int.reduceLE, Int.reduceNeg, hcp, List.map_cons, List.map_nil]; rfl) ?_
          refine runk_call rfl rfl rfl rfl rfl (by simp) (cvs_cons cv_refl (cvs_cons cv_refl cvs_nil)) (hnxi _) ?_
          refine runk_split 2 (by simp only [exa, beq_self_eq_true, ByteArray.size, Nat.reduceAdd, Nat.reduceLeDiff, Nat.reduceEqDiff, Nat.reduceMul, Int.reduceToNat, reduceIte, Int.reduceLE, Int.reduceNeg]; rfl) ?_
          refine runk_callE (D := []) rfl rfl rfl rfl rfl (fun j hj => by simp at hj) (by simp) (cvs_cons cv_refl cvs_nil) (hm1 _ (fun d => by simp only [upd_app, killM_app, mem_nil_app]; (repeat (rw [if_neg (by omega)])); first | done | rfl)) ?_
          simp only [killL, putS, upd_upd]
          refine runk_split 0 (by simp only [exa, beq_self_eq_true, ByteArray.size, Nat.reduceAdd, Nat.reduceLeDiff, Nat.reduceEqDiff, Nat.reduceMul, Int.reduceToNat, reduceIte, Int.reduceLE, Int.reduceNeg]; rfl) ?_
          refine runk_callR rfl rfl rfl rfl rfl (by simp) (cvrs_cons cvr_refl (cvrs_cons (cvr_fn (caps_one rfl rfl)) cvrs_nil)) (by rfl) (by rfl) (anyInt_ok (nx code i) 32 [[.int .i64 code.length]] (outI code.length) hnl (fun z _ m => may11_ok code.length z m)) ?_
          cases ha : (nx code i).any (outI code.length) with
          | true =>
            have hbd : insB code.length regs code i = false := by rw [hbad, ha]; rfl
            refine runk_exec (by simp only [exa, beq_self_eq_true, ByteArray.size, Nat.reduceAdd, Nat.reduceLeDiff, Nat.reduceEqDiff, Nat.reduceMul, Int.reduceToNat, reduceIte, Int.reduceLE, Int.reduceNeg, ha, Bool.not_true]; rfl) ?_
            refine W.cond rfl (fun _ => ?_) (fun h => absurd h (by simp))
            repeat (first | refine W.seq ?_ | refine W.block ?_ | refine W.skip ?_ | refine W.exit ?_ | refine W.region tab_ok 0 (by decide) (exec_run (by simp only [exa, beq_self_eq_true, ByteArray.size, Nat.reduceAdd, Nat.reduceLeDiff, Nat.reduceEqDiff, Nat.reduceMul, Int.reduceToNat, reduceIte, Int.reduceLE, Int.reduceNeg]; rfl)) ?_)
            refine W.ret ⟨.inr rfl, by rfl, ?_⟩
            simp only [Tryd.f17, resA, resOne, toT, fin, exa, beq_self_eq_true, ByteArray.size, Nat.reduceAdd, Nat.reduceLeDiff, Nat.reduceEqDiff, Nat.reduceMul, Int.reduceToNat, reduceIte, Int.reduceLE, Int.reduceNeg]
            rw [hall, allno hlt hbd]
          | false =>
            refine runk_split 5 (by simp only [exa, beq_self_eq_true, ByteArray.size, Nat.reduceAdd, Nat.reduceLeDiff, Nat.reduceEqDiff, Nat.reduceMul, Int.reduceToNat, reduceIte, Int.reduceLE, Int.reduceNeg, ha, Bool.not_false]; rfl) ?_
            refine runk_callE (D := []) rfl rfl rfl rfl rfl (fun j hj => by simp at hj) (by simp) (cvs_cons cv_refl cvs_nil) (hm2 _ (fun d => by simp only [upd_app, killM_app, mem_nil_app]; (repeat (rw [if_neg (by omega)])); first | done | rfl)) ?_
            simp only [killL, putS, upd_upd]
            refine runk_split 0 (by simp only [exa, beq_self_eq_true, ByteArray.size, Nat.reduceAdd, Nat.reduceLeDiff, Nat.reduceEqDiff, Nat.reduceMul, Int.reduceToNat, reduceIte, Int.reduceLE, Int.reduceNeg]; rfl) ?_
            refine runk_callR rfl rfl rfl rfl rfl (by simp) (cvrs_cons (cvr_cv (.inr (.inr ⟨_, rfl, rfl⟩))) (cvrs_cons (cvr_fn (caps_one rfl rfl)) cvrs_nil)) (by rfl) (by rfl) (anyInt_ok (rgI x) 32 [[.int .i64 regs]] (outI regs) hrl (fun z _ m => may11_ok regs z m)) ?_
            cases hb : (rgI x).any (outI regs) with
            | true =>
              have hbd : insB code.length regs code i = false := by rw [hbad, ha, hb]; rfl
              refine runk_exec (by simp only [exa, beq_self_eq_true, ByteArray.size, Nat.reduceAdd, Nat.reduceLeDiff, Nat.reduceEqDiff, Nat.reduceMul, Int.reduceToNat, reduceIte, Int.reduceLE, Int.reduceNeg, ha, hb]; rfl) ?_
              refine W.cond rfl (fun _ => ?_) (fun h => absurd h (by simp))
              repeat (first | refine W.seq ?_ | refine W.block ?_ | refine W.skip ?_ | refine W.exit ?_ | refine W.region tab_ok 0 (by decide) (exec_run (by simp only [exa, beq_self_eq_true, ByteArray.size, Nat.reduceAdd, Nat.reduceLeDiff, Nat.reduceEqDiff, Nat.reduceMul, Int.reduceToNat, reduceIte, Int.reduceLE, Int.reduceNeg]; rfl)) ?_)
              refine W.ret ⟨.inr rfl, by rfl, ?_⟩
              simp only [Tryd.f17, resA, resOne, toT, fin, exa, beq_self_eq_true, ByteArray.size, Nat.reduceAdd, Nat.reduceLeDiff, Nat.reduceEqDiff, Nat.reduceMul, Int.reduceToNat, reduceIte, Int.reduceLE, Int.reduceNeg]
              rw [hall, allno hlt hbd]
            | false =>
              have hgd : insB code.length regs code i = true := by rw [hbad, ha, hb]; rfl
              refine runk_exec (by simp only [exa, beq_self_eq_true, ByteArray.size, Nat.reduceAdd, Nat.reduceLeDiff, Nat.reduceEqDiff, Nat.reduceMul, Int.reduceToNat, reduceIte, Int.reduceLE, Int.reduceNeg, ha, hb]; rfl) ?_
              refine W.cond rfl (fun h => absurd h (by simp)) (fun _ => ?_)
              repeat (first | refine W.seq ?_ | refine W.block ?_ | refine W.skip ?_ | refine W.exit ?_ | refine W.region tab_ok 0 (by decide) (exec_run (by simp only [exa, beq_self_eq_true, ByteArray.size, Nat.reduceAdd, Nat.reduceLeDiff, Nat.reduceEqDiff, Nat.reduceMul, Int.reduceToNat, reduceIte, Int.reduceLE, Int.reduceNeg]; rfl)) ?_)
              refine ⟨i + 1, ⟨hlt, by rw [List.range_succ, List.all_append, hin]; simp [hgd]⟩, by omega, ?_⟩
              refine le_mk ?sle ?mle ?swf ?mwf (kept_not hkeep) (by rfl)
              case swf => repeat (first | exact swf_top _ | refine swf_upd ?_ (by simp [A.ids, upd_app, wrap_succ (show i + 1 < 9223372036854775808 by omega)]))
              case mwf => repeat (first | exact mwf_nil _ | refine mwf_upd ?_ (by simp [A.ids, O.ids, upd_app, wrap_succ (show i + 1 < 9223372036854775808 by omega)]))
              case mle => repeat (first | exact mle_nil _ | exact mle_refl _ | refine mle_upd ?_ (by first | rfl | (simp only [upd_app, killM_app, O.kill, A.kill, Nat.reduceEqDiff, reduceIte, Option.map_some, Option.map_none, List.map_cons, List.map_nil, wrap_succ (show i + 1 < 9223372036854775808 by omega)]; done)))
              case sle => repeat (first | exact sle_top _ | exact sle_refl _ | refine sle_upd ?_ (by first | rfl | (simp only [upd_app, killS_app, A.kill, entry_zero, entry_succ, Nat.reduceEqDiff, reduceIte, wrap_succ (show i + 1 < 9223372036854775808 by omega)]; done)))
        · have hk := eq_false hk0
          refine W.regionK tab_ok 0 (by decide) ?_
          refine runk_split 7 (by simp only [exa, beq_self_eq_true, ByteArray.size, Nat.reduceAdd, Nat.reduceLeDiff, Nat.reduceEqDiff, Nat.reduceMul, Int.reduceToNat, reduceIte, Int.reduceLE, Int.reduceNeg, hk, decide_false, Bool.not_false, not_false_eq_true, decide_true]; rfl) ?_
          refine runk_call rfl rfl rfl rfl rfl (by simp) (cvs_cons cv_refl cvs_nil) (hdf _) ?_
          refine runk_exec (by simp only [exa, beq_self_eq_true, ByteArray.size, Nat.reduceAdd, Nat.reduceLeDiff, Nat.reduceEqDiff, Nat.reduceMul, Int.reduceToNat, reduceIte, Int.reduceLE, Int.reduceNeg, hk, decide_false, Int.reduceEq, Int.reduceNeg]; rfl) ?_
          refine W.cond rfl (fun h => absurd h (by simp)) (fun _ => ?_)
          rw [hrg]
          (repeat (first | refine W.seq ?_ | refine W.block ?_ | refine W.skip ?_ | refine W.exit ?_))
          refine W.regionK tab_ok 0 (by decide) ?_
          refine runk_split 2 (by simp only [exa, beq_self_eq_true, ByteArray.size, Nat.reduceAdd, Nat.reduceLeDiff, Nat.reduceEqDiff, Nat.reduceMul, Int.reduceToNat, reduceIte, Int.reduceLE, Int.reduceNeg, hcp, List.map_cons, List.map_nil]; rfl) ?_
          refine runk_call rfl rfl rfl rfl rfl (by simp) (cvs_cons cv_refl (cvs_cons cv_refl cvs_nil)) (hnxi _) ?_
          refine runk_split 2 (by simp only [exa, beq_self_eq_true, ByteArray.size, Nat.reduceAdd, Nat.reduceLeDiff, Nat.reduceEqDiff, Nat.reduceMul, Int.reduceToNat, reduceIte, Int.reduceLE, Int.reduceNeg]; rfl) ?_
          refine runk_callE (D := []) rfl rfl rfl rfl rfl (fun j hj => by simp at hj) (by simp) (cvs_cons cv_refl cvs_nil) (hm1 _ (fun d => by simp only [upd_app, killM_app, mem_nil_app]; (repeat (rw [if_neg (by omega)])); first | done | rfl)) ?_
          simp only [killL, putS, upd_upd]
          refine runk_split 0 (by simp only [exa, beq_self_eq_true, ByteArray.size, Nat.reduceAdd, Nat.reduceLeDiff, Nat.reduceEqDiff, Nat.reduceMul, Int.reduceToNat, reduceIte, Int.reduceLE, Int.reduceNeg]; rfl) ?_
          refine runk_callR rfl rfl rfl rfl rfl (by simp) (cvrs_cons cvr_refl (cvrs_cons (cvr_fn (caps_one rfl rfl)) cvrs_nil)) (by rfl) (by rfl) (anyInt_ok (nx code i) 32 [[.int .i64 code.length]] (outI code.length) hnl (fun z _ m => may11_ok code.length z m)) ?_
          cases ha : (nx code i).any (outI code.length) with
          | true =>
            have hbd : insB code.length regs code i = false := by rw [hbad, ha]; rfl
            refine runk_exec (by simp only [exa, beq_self_eq_true, ByteArray.size, Nat.reduceAdd, Nat.reduceLeDiff, Nat.reduceEqDiff, Nat.reduceMul, Int.reduceToNat, reduceIte, Int.reduceLE, Int.reduceNeg, ha, Bool.not_true]; rfl) ?_
            refine W.cond rfl (fun _ => ?_) (fun h => absurd h (by simp))
            repeat (first | refine W.seq ?_ | refine W.block ?_ | refine W.skip ?_ | refine W.exit ?_ | refine W.region tab_ok 0 (by decide) (exec_run (by simp only [exa, beq_self_eq_true, ByteArray.size, Nat.reduceAdd, Nat.reduceLeDiff, Nat.reduceEqDiff, Nat.reduceMul, Int.reduceToNat, reduceIte, Int.reduceLE, Int.reduceNeg]; rfl)) ?_)
            refine W.ret ⟨.inr rfl, by rfl, ?_⟩
            simp only [Tryd.f17, resA, resOne, toT, fin, exa, beq_self_eq_true, ByteArray.size, Nat.reduceAdd, Nat.reduceLeDiff, Nat.reduceEqDiff, Nat.reduceMul, Int.reduceToNat, reduceIte, Int.reduceLE, Int.reduceNeg]
            rw [hall, allno hlt hbd]
          | false =>
            refine runk_split 5 (by simp only [exa, beq_self_eq_true, ByteArray.size, Nat.reduceAdd, Nat.reduceLeDiff, Nat.reduceEqDiff, Nat.reduceMul, Int.reduceToNat, reduceIte, Int.reduceLE, Int.reduceNeg, ha, Bool.not_false]; rfl) ?_
            refine runk_callE (D := []) rfl rfl rfl rfl rfl (fun j hj => by simp at hj) (by simp) (cvs_cons cv_refl cvs_nil) (hm2 _ (fun d => by simp only [upd_app, killM_app, mem_nil_app]; (repeat (rw [if_neg (by omega)])); first | done | rfl)) ?_
            simp only [killL, putS, upd_upd]
            refine runk_split 0 (by simp only [exa, beq_self_eq_true, ByteArray.size, Nat.reduceAdd, Nat.reduceLeDiff, Nat.reduceEqDiff, Nat.reduceMul, Int.reduceToNat, reduceIte, Int.reduceLE, Int.reduceNeg]; rfl) ?_
            refine runk_callR rfl rfl rfl rfl rfl (by simp) (cvrs_cons (cvr_cv (.inr (.inr ⟨_, rfl, rfl⟩))) (cvrs_cons (cvr_fn (caps_one rfl rfl)) cvrs_nil)) (by rfl) (by rfl) (anyInt_ok (rgI x) 32 [[.int .i64 regs]] (outI regs) hrl (fun z _ m => may11_ok regs z m)) ?_
            cases hb : (rgI x).any (outI regs) with
            | true =>
              have hbd : insB code.length regs code i = false := by rw [hbad, ha, hb]; rfl
              refine runk_exec (by simp only [exa, beq_self_eq_true, ByteArray.size, Nat.reduceAdd, Nat.reduceLeDiff, Nat.reduceEqDiff, Nat.reduceMul, Int.reduceToNat, reduceIte, Int.reduceLE, Int.reduceNeg, ha, hb]; rfl) ?_
              refine W.cond rfl (fun _ => ?_) (fun h => absurd h (by simp))
              repeat (first | refine W.seq ?_ | refine W.block ?_ | refine W.skip ?_ | refine W.exit ?_ | refine W.region tab_ok 0 (by decide) (exec_run (by simp only [exa, beq_self_eq_true, ByteArray.size, Nat.reduceAdd, Nat.reduceLeDiff, Nat.reduceEqDiff, Nat.reduceMul, Int.reduceToNat, reduceIte, Int.reduceLE, Int.reduceNeg]; rfl)) ?_)
              refine W.ret ⟨.inr rfl, by rfl, ?_⟩
              simp only [Tryd.f17, resA, resOne, toT, fin, exa, beq_self_eq_true, ByteArray.size, Nat.reduceAdd, Nat.reduceLeDiff, Nat.reduceEqDiff, Nat.reduceMul, Int.reduceToNat, reduceIte, Int.reduceLE, Int.reduceNeg]
              rw [hall, allno hlt hbd]
            | false =>
              have hgd : insB code.length regs code i = true := by rw [hbad, ha, hb]; rfl
              refine runk_exec (by simp only [exa, beq_self_eq_true, ByteArray.size, Nat.reduceAdd, Nat.reduceLeDiff, Nat.reduceEqDiff, Nat.reduceMul, Int.reduceToNat, reduceIte, Int.reduceLE, Int.reduceNeg, ha, hb]; rfl) ?_
              refine W.cond rfl (fun h => absurd h (by simp)) (fun _ => ?_)
              repeat (first | refine W.seq ?_ | refine W.block ?_ | refine W.skip ?_ | refine W.exit ?_ | refine W.region tab_ok 0 (by decide) (exec_run (by simp only [exa, beq_self_eq_true, ByteArray.size, Nat.reduceAdd, Nat.reduceLeDiff, Nat.reduceEqDiff, Nat.reduceMul, Int.reduceToNat, reduceIte, Int.reduceLE, Int.reduceNeg]; rfl)) ?_)
              refine ⟨i + 1, ⟨hlt, by rw [List.range_succ, List.all_append, hin]; simp [hgd]⟩, by omega, ?_⟩
              refine le_mk ?sle ?mle ?swf ?mwf (kept_not hkeep) (by rfl)
              case swf => repeat (first | exact swf_top _ | refine swf_upd ?_ (by simp [A.ids, upd_app, wrap_succ (show i + 1 < 9223372036854775808 by omega)]))
              case mwf => repeat (first | exact mwf_nil _ | refine mwf_upd ?_ (by simp [A.ids, O.ids, upd_app, wrap_succ (show i + 1 < 9223372036854775808 by omega)]))
              case mle => repeat (first | exact mle_nil _ | exact mle_refl _ | refine mle_upd ?_ (by first | rfl | (simp only [upd_app, killM_app, O.kill, A.kill, Nat.reduceEqDiff, reduceIte, Option.map_some, Option.map_none, List.map_cons, List.map_nil, wrap_succ (show i + 1 < 9223372036854775808 by omega)]; done)))
              case sle => repeat (first | exact sle_top _ | exact sle_refl _ | refine sle_upd ?_ (by first | rfl | (simp only [upd_app, killS_app, A.kill, entry_zero, entry_succ, Nat.reduceEqDiff, reduceIte, wrap_succ (show i + 1 < 9223372036854775808 by omega)]; done)))
    · intro hge
      simp only [decide_eq_false_iff_not, Int.ofNat_lt] at hge
      obtain rfl : i = code.length := by omega
      repeat (first | refine W.seq ?_ | refine W.block ?_ | refine W.skip ?_ | refine W.exit ?_ | refine W.region tab_ok 0 (by decide) (exec_run (by simp only [exa, beq_self_eq_true, ByteArray.size, Nat.reduceAdd, Nat.reduceLeDiff, Nat.reduceEqDiff, Nat.reduceMul, Int.reduceToNat, reduceIte, Int.reduceLE, Int.reduceNeg]; rfl)) ?_)
      refine W.ret ⟨.inr rfl, by rfl, ?_⟩
      simp only [Tryd.f17, resA, resOne, toT, fin, exa, beq_self_eq_true, ByteArray.size, Nat.reduceAdd, Nat.reduceLeDiff, Nat.reduceEqDiff, Nat.reduceMul, Int.reduceToNat, reduceIte, Int.reduceLE, Int.reduceNeg]
      rw [hall, hin]
end V
end Go.Proofs.YtcldeoolglhdoaaDoor
end
section
set_option linter.unusedVariables false
set_option linter.unusedSimpArgs false
namespace Go.Proofs.YtcldeoolglhdoaaDoor
namespace V
open Go.RowKit G C17 D18
theorem any_take {α : Type} {l : List α} {p : α → Bool} {q : Nat} {z : α} (hz : l[q]? = some z) (h : (l.take q).any p = false) (hp : p z = false) : (l.take (q + 1)).any p = false := by
  rw [List.take_add_one, hz, List.any_append, h]; simp [hp]
set_option maxHeartbeats 8000000 in
theorem refMay_ok (p : Prc) (hpl : p.code.length ≤ 1000000000000000) (hargs : ∀ x ∈ p.code, x.args.length ≤ 1000000000) (m : Mem) : COk Tryd.prog 28 [.agg (cP p)] m (.c (.bool (okD p.code p.regs))) := by
  have hnx := fun i (hi : i ≤ p.code.length) m => refNext_ok p i hpl hi m
  obtain ⟨cls, name, params, regs, code⟩ := p
  simp only at hpl hnx hargs ⊢
  have hcp : cP ⟨cls, name, params, regs, code⟩ = [.str cls, .str name, .int .i64 params, .int .i64 regs, .sl (code.map cIns)] := rfl
  refine (ok_pure tab_ok Tryd.func28 (by kernel_rfl) rfl rfl (by rfl) (by rfl) (by rfl) (fun R hkeep => ?_) m)
  (repeat (first | refine W.seq ?_ | refine W.block ?_ | refine W.skip ?_ | refine W.exit ?_))
  refine W.region tab_ok 0 (by decide) (exec_run (by simp only [exa, beq_self_eq_true, ByteArray.size, Nat.reduceAdd, Nat.reduceLeDiff, Nat.reduceEqDiff, Nat.reduceMul, Int.reduceToNat, reduceIte, Int.reduceLE, Int.reduceNeg, hcp, List.map_cons, List.map_nil]; rfl)) ?_
  (repeat (first | refine W.seq ?_ | refine W.block ?_ | refine W.skip ?_ | refine W.exit ?_))
  refine W.region tab_ok 0 (by decide) (exec_run (by simp only [exa, beq_self_eq_true, ByteArray.size, Nat.reduceAdd, Nat.reduceLeDiff, Nat.reduceEqDiff, Nat.reduceMul, Int.reduceToNat, reduceIte, Int.reduceLE, Int.reduceNeg, List.length_map]; rfl)) ?_
  by_cases h0 : (code.length : Int) < 1
  · have q := eq_true h0
    have e : okD code regs = false := by unfold okD; rw [show decide (1 ≤ code.length) = false from decide_eq_false (by omega)]; rfl
    repeat (first | refine W.seq ?_ | refine W.block ?_ | refine W.skip ?_ | refine W.exit ?_ | refine W.region tab_ok 0 (by decide) (exec_run (by simp only [exa, beq_self_eq_true, ByteArray.size, Nat.reduceAdd, Nat.reduceLeDiff, Nat.reduceEqDiff, Nat.reduceMul, Int.reduceToNat, reduceIte, Int.reduceLE, Int.reduceNeg, q, decide_true]; rfl)) ?_)
    refine W.cond rfl (fun _ => ?_) (fun h => absurd h (by simp))
    repeat (first | refine W.seq ?_ | refine W.block ?_ | refine W.skip ?_ | refine W.exit ?_ | refine W.region tab_ok 0 (by decide) (exec_run (by simp only [exa, beq_self_eq_true, ByteArray.size, Nat.reduceAdd, Nat.reduceLeDiff, Nat.reduceEqDiff, Nat.reduceMul, Int.reduceToNat, reduceIte, Int.reduceLE, Int.reduceNeg]; rfl)) ?_)
    refine W.ret ⟨.inr rfl, by rfl, ?_⟩
    simp only [Tryd.f28, resA, resOne, toT, fin, exa, beq_self_eq_true, ByteArray.size, Nat.reduceAdd, Nat.reduceLeDiff, Nat.reduceEqDiff, Nat.reduceMul, Int.reduceToNat, reduceIte, Int.reduceLE, Int.reduceNeg, e]
  have q0 := eq_false h0
  by_cases h1 : (2000 : Int) < code.length
  · have q := eq_true h1
    have e : okD code regs = false := by unfold okD; rw [show decide (code.length ≤ 2000) = false from decide_eq_false (by omega)]; simp
    repeat (first | refine W.seq ?_ | refine W.block ?_ | refine W.skip ?_ | refine W.exit ?_ | refine W.region tab_ok 0 (by decide) (exec_run (by simp only [exa, beq_self_eq_true, ByteArray.size, Nat.reduceAdd, Nat.reduceLeDiff, Nat.reduceEqDiff, Nat.reduceMul, Int.reduceToNat, reduceIte, Int.reduceLE, Int.reduceNeg, q0, q, decide_true, decide_false]; rfl)) ?_)
    refine W.cond rfl (fun _ => ?_) (fun h => absurd h (by simp))
    repeat (first | refine W.seq ?_ | refine W.block ?_ | refine W.skip ?_ | refine W.exit ?_ | refine W.region tab_ok 0 (by decide) (exec_run (by simp only [exa, beq_self_eq_true, ByteArray.size, Nat.reduceAdd, Nat.reduceLeDiff, Nat.reduceEqDiff, Nat.reduceMul, Int.reduceToNat, reduceIte, Int.reduceLE, Int.reduceNeg]; rfl)) ?_)
    refine W.ret ⟨.inr rfl, by rfl, ?_⟩
    simp only [Tryd.f28, resA, resOne, toT, fin, exa, beq_self_eq_true, ByteArray.size, Nat.reduceAdd, Nat.reduceLeDiff, Nat.reduceEqDiff, Nat.reduceMul, Int.reduceToNat, reduceIte, Int.reduceLE, Int.reduceNeg, e]
  have q1 := eq_false h1
  by_cases h2 : regs < 0
  · have q := eq_true h2
    have e : okD code regs = false := by unfold okD; rw [show decide (0 ≤ regs) = false from decide_eq_false (by omega)]; simp
    repeat (first | refine W.seq ?_ | refine W.block ?_ | refine W.skip ?_ | refine W.exit ?_ | refine W.region tab_ok 0 (by decide) (exec_run (by simp only [exa, beq_self_eq_true, ByteArray.size, Nat.reduceAdd, Nat.reduceLeDiff, Nat.reduceEqDiff, Nat.reduceMul, Int.reduceToNat, reduceIte, Int.reduceLE, Int.reduceNeg, q0, q1, q, decide_true, decide_false]; rfl)) ?_)
    refine W.cond rfl (fun _ => ?_) (fun h => absurd h (by simp))
    repeat (first | refine W.seq ?_ | refine W.block ?_ | refine W.skip ?_ | refine W.exit ?_ | refine W.region tab_ok 0 (by decide) (exec_run (by simp only [exa, beq_self_eq_true, ByteArray.size, Nat.reduceAdd, Nat.reduceLeDiff, Nat.reduceEqDiff, Nat.reduceMul, Int.reduceToNat, reduceIte, Int.reduceLE, Int.reduceNeg]; rfl)) ?_)
    refine W.ret ⟨.inr rfl, by rfl, ?_⟩
    simp only [Tryd.f28, resA, resOne, toT, fin, exa, beq_self_eq_true, ByteArray.size, Nat.reduceAdd, Nat.reduceLeDiff, Nat.reduceEqDiff, Nat.reduceMul, Int.reduceToNat, reduceIte, Int.reduceLE, Int.reduceNeg, e]
  have q2 := eq_false h2
  by_cases h3 : (10000 : Int) < regs
  · have q := eq_true h3
    have e : okD code regs = false := by unfold okD; rw [show decide (regs ≤ 10000) = false from decide_eq_false (by omega)]; simp
    repeat (first | refine W.seq ?_ | refine W.block ?_ | refine W.skip ?_ | refine W.exit ?_ | refine W.region tab_ok 0 (by decide) (exec_run (by simp only [exa, beq_self_eq_true, ByteArray.size, Nat.reduceAdd, Nat.reduceLeDiff, Nat.reduceEqDiff, Nat.reduceMul, Int.reduceToNat, reduceIte, Int.reduceLE, Int.reduceNeg, q0, q1, q2, q, decide_true, decide_false]; rfl)) ?_)
    refine W.cond rfl (fun _ => ?_) (fun h => absurd h (by simp))
    repeat (first | refine W.seq ?_ | refine W.block ?_ | refine W.skip ?_ | refine W.exit ?_ | refine W.region tab_ok 0 (by decide) (exec_run (by simp only [exa, beq_self_eq_true, ByteArray.size, Nat.reduceAdd, Nat.reduceLeDiff, Nat.reduceEqDiff, Nat.reduceMul, Int.reduceToNat, reduceIte, Int.reduceLE, Int.reduceNeg]; rfl)) ?_)
    refine W.ret ⟨.inr rfl, by rfl, ?_⟩
    simp only [Tryd.f28, resA, resOne, toT, fin, exa, beq_self_eq_true, ByteArray.size, Nat.reduceAdd, Nat.reduceLeDiff, Nat.reduceEqDiff, Nat.reduceMul, Int.reduceToNat, reduceIte, Int.reduceLE, Int.reduceNeg, e]
  have q3 := eq_false h3
  have hall : okD code regs = (List.range code.length).all (insB code.length regs code) := by
    unfold okD
    rw [decide_eq_true (show 1 ≤ code.length by omega), decide_eq_true (show code.length ≤ 2000 by omega), decide_eq_true (show 0 ≤ regs by omega), decide_eq_true (show regs ≤ 10000 by omega)]
    rfl
  repeat (first | refine W.seq ?_ | refine W.block ?_ | refine W.skip ?_ | refine W.exit ?_ | refine W.region tab_ok 0 (by decide) (exec_run (by simp only [exa, beq_self_eq_true, ByteArray.size, Nat.reduceAdd, Nat.reduceLeDiff, Nat.reduceEqDiff, Nat.reduceMul, Int.reduceToNat, reduceIte, Int.reduceLE, Int.reduceNeg, q0, q1, q2, q3, decide_true, decide_false]; rfl)) ?_)
  refine W.cond rfl (fun h => absurd h (by simp)) (fun _ => ?_)
  repeat (first | refine W.seq ?_ | refine W.block ?_ | refine W.skip ?_ | refine W.exit ?_ | refine W.region tab_ok 0 (by decide) (exec_run (by simp only [exa, beq_self_eq_true, ByteArray.size, Nat.reduceAdd, Nat.reduceLeDiff, Nat.reduceEqDiff, Nat.reduceMul, Int.reduceToNat, reduceIte, Int.reduceLE, Int.reduceNeg, List.length_map]; rfl)) ?_)
  refine W.loop (ι := Nat) (fun i => ⟨upd (upd (upd (upd (upd (fun _ => .top) 1 (.ptr 1 0)) 3 (.c (.int .i64 code.length))) 30 (.c (.sl (code.map cIns)))) 31 (.c (.int .i64 code.length))) 32 (.c (.int .i64 i)),
    upd Mem.nil 1 (some (.box 24 [.c (.str cls), .c (.str name), .c (.int .i64 params), .c (.int .i64 regs), .c (.sl (code.map cIns))]))⟩) (fun i => i ≤ code.length ∧ (List.range i).all (insB code.length regs code) = true) (fun i => code.length - i) 0 ?start ⟨Nat.zero_le _, rfl⟩ ?round
  case start =>
    refine le_mk ?sle ?mle ?swf ?mwf (kept_not hkeep) (by rfl)
    case swf => repeat (first | exact swf_top _ | refine swf_upd ?_ (by simp [A.ids, upd_app]))
    case mwf => repeat (first | exact mwf_nil _ | refine mwf_upd ?_ (by simp [A.ids, O.ids, upd_app]))
    case mle => repeat (first | exact mle_nil _ | exact mle_refl _ | refine mle_upd ?_ (by first | rfl | (simp only [upd_app, killM_app, O.kill, A.kill, Nat.reduceEqDiff, reduceIte, Option.map_some, Option.map_none, List.map_cons, List.map_nil]; done)))
    case sle => repeat (first | exact sle_top _ | exact sle_refl _ | refine sle_upd ?_ (by first | rfl | (simp only [upd_app, killS_app, A.kill, entry_zero, entry_succ, Nat.reduceEqDiff, reduceIte]; done)))
  case round =>
    rintro i ⟨hil, hin⟩
    repeat (first | refine W.seq ?_ | refine W.block ?_ | refine W.skip ?_ | refine W.exit ?_ | refine W.region tab_ok 0 (by decide) (exec_run (by simp only [exa, beq_self_eq_true, ByteArray.size, Nat.reduceAdd, Nat.reduceLeDiff, Nat.reduceEqDiff, Nat.reduceMul, Int.reduceToNat, reduceIte, Int.reduceLE, Int.reduceNeg]; rfl)) ?_)
    refine W.cond rfl ?_ ?_
    · intro hlt
      simp only [decide_eq_true_eq, Int.ofNat_lt] at hlt
      obtain ⟨x, hx⟩ : ∃ x, code[i]? = some x := ⟨_, List.getElem?_eq_getElem hlt⟩
      have hax := hargs x (List.mem_of_getElem? hx)
      have hbad := ins_bad (n := code.length) (R := regs) hx
      have hxc : cIns x = [.int .i64 x.kind, .int .i64 x.dst, .int .i64 x.a, .int .i64 x.b, .int .i64 x.c, .int .i64 x.tt, .int .i64 x.els, .int .i64 x.num, .str x.name, .sl (x.args.map fun z => [C.int .i64 z])] := rfl
      have hnxi := hnx i (by omega)
      have hnl := nx_len code i
      have hul := usI_len x
      have hus := fun m => refUses_ok x (by omega) m
      rw [hxc] at hus
      have hhd := fun m => hasp_ok x.kind 100 (by decide) m
      rw [(has_letter x.kind).1] at hhd
      simp only [Int.cast_ofNat_Int] at hhd
      repeat (first | refine W.seq ?_ | refine W.block ?_ | refine W.skip ?_ | refine W.exit ?_ | refine W.region tab_ok 0 (by decide) (exec_run (by simp only [exa, beq_self_eq_true, ByteArray.size, Nat.reduceAdd, Nat.reduceLeDiff, Nat.reduceEqDiff, Nat.reduceMul, Int.reduceToNat, reduceIte, Int.reduceLE, Int.reduceNeg, at_map hx, hxc]; rfl)) ?_)
      refine W.regionK tab_ok 0 (by decide) ?_
      refine runk_split 2 (by simp only [exa, beq_self_eq_true, ByteArray.size, Nat.reduceAdd, Nat.reduceLeDiff, Nat.reduceEqDiff, Nat.reduceMul, Int.reduceToNat, reduceIte, Int.reduceLE, Int.reduceNeg, hcp, List.map_cons, List.map_nil]; rfl) ?_
      refine runk_call rfl rfl rfl rfl rfl (by simp) (cvs_cons cv_refl (cvs_cons cv_refl cvs_nil)) (hnxi _) ?_
      refine runk_exec (by simp only [exa, beq_self_eq_true, ByteArray.size, Nat.reduceAdd, Nat.reduceLeDiff, Nat.reduceEqDiff, Nat.reduceMul, Int.reduceToNat, reduceIte, Int.reduceLE, Int.reduceNeg, List.length_map]; rfl) ?_
      (repeat (first | refine W.seq ?_ | refine W.block ?_ | refine W.skip ?_ | refine W.exit ?_))
      refine W.loop (ι := Nat) (fun q => ⟨upd (upd (upd (upd (upd (upd (upd (upd (upd (upd (fun _ => .top) 1 (.ptr 1 0)) 3 (.c (.int .i64 code.length))) 30 (.c (.sl (code.map cIns)))) 31 (.c (.int .i64 code.length))) 32 (.c (.int .i64 i))) 4 (.c (.int .i64 i))) 5 (.ptr 5 0)) 39 (.c (.sl ((nx code i).map cZ)))) 40 (.c (.int .i64 (nx code i).length))) 41 (.c (.int .i64 q)), upd (upd Mem.nil 1 (some (.box 24 [.c (.str cls), .c (.str name), .c (.int .i64 params), .c (.int .i64 regs), .c (.sl (code.map cIns))]))) 5 (some (.box 41 [.c (.int .i64 x.kind), .c (.int .i64 x.dst), .c (.int .i64 x.a), .c (.int .i64 x.b), .c (.int .i64 x.c), .c (.int .i64 x.tt), .c (.int .i64 x.els), .c (.int .i64 x.num), .c (.str x.name), .c (.sl (x.args.map fun z => [C.int .i64 z]))]))⟩) (fun q => q ≤ (nx code i).length ∧ ((nx code i).take q).any (outI code.length) = false) (fun q => (nx code i).length - q) 0 ?start2 ⟨Nat.zero_le _, rfl⟩ ?round2
      case start2 =>
        refine le_mk ?sle ?mle ?swf ?mwf (kept_not hkeep) (by rfl)
        case swf => repeat (first | exact swf_top _ | refine swf_upd ?_ (by simp [A.ids, upd_app]))
        case mwf => repeat (first | exact mwf_nil _ | refine mwf_upd ?_ (by simp [A.ids, O.ids, upd_app]))
        case mle => repeat (first | exact mle_nil _ | exact mle_refl _ | refine mle_upd ?_ (by first | rfl | (simp only [upd_app, killM_app, O.kill, A.kill, Nat.reduceEqDiff, reduceIte, Option.map_some, Option.map_none, List.map_cons, List.map_nil]; done)))
        case sle => repeat (first | exact sle_top _ | exact sle_refl _ | refine sle_upd ?_ (by first | rfl | (simp only [upd_app, killS_app, A.kill, entry_zero, entry_succ, Nat.reduceEqDiff, reduceIte]; done)))
      case round2 =>
        rintro q ⟨hql, hqn⟩
        repeat (first | refine W.seq ?_ | refine W.block ?_ | refine W.skip ?_ | refine W.exit ?_ | refine W.region tab_ok 0 (by decide) (exec_run (by simp only [exa, beq_self_eq_true, ByteArray.size, Nat.reduceAdd, Nat.reduceLeDiff, Nat.reduceEqDiff, Nat.reduceMul, Int.reduceToNat, reduceIte, Int.reduceLE, Int.reduceNeg]; rfl)) ?_)
        refine W.cond rfl ?_ ?_
        · intro hq2
          simp only [decide_eq_true_eq, Int.ofNat_lt] at hq2
          obtain ⟨z, hz⟩ : ∃ z, (nx code i)[q]? = some z := ⟨_, List.getElem?_eq_getElem hq2⟩
          have badz : outI code.length z = true → insB code.length regs code i = false := fun h => by rw [hbad, List.any_eq_true.2 ⟨z, List.mem_of_getElem? hz, h⟩]; rfl
          by_cases z1 : z < 0
          · have e1 := eq_true z1
            repeat (first | refine W.seq ?_ | refine W.block ?_ | refine W.skip ?_ | refine W.exit ?_ | refine W.region tab_ok 0 (by decide) (exec_run (by simp only [exa, beq_self_eq_true, ByteArray.size, Nat.reduceAdd, Nat.reduceLeDiff, Nat.reduceEqDiff, Nat.reduceMul, Int.reduceToNat, reduceIte, Int.reduceLE, Int.reduceNeg, at_map hz, cZ, e1, decide_true]; rfl)) ?_)
            refine W.cond rfl (fun _ => ?_) (fun h => absurd h (by simp))
            repeat (first | refine W.seq ?_ | refine W.block ?_ | refine W.skip ?_ | refine W.exit ?_ | refine W.region tab_ok 0 (by decide) (exec_run (by simp only [exa, beq_self_eq_true, ByteArray.size, Nat.reduceAdd, Nat.reduceLeDiff, Nat.reduceEqDiff, Nat.reduceMul, Int.reduceToNat, reduceIte, Int.reduceLE, Int.reduceNeg]; rfl)) ?_)
            refine W.ret ⟨.inr rfl, by rfl, ?_⟩
            simp only [Tryd.f28, resA, resOne, toT, fin, exa, beq_self_eq_true, ByteArray.size, Nat.reduceAdd, Nat.reduceLeDiff, Nat.reduceEqDiff, Nat.reduceMul, Int.reduceToNat, reduceIte, Int.reduceLE, Int.reduceNeg]
            rw [hall, allno hlt (badz (by simp [outI, z1]))]
          · have e1 := eq_false z1
            by_cases z2 : (code.length : Int) ≤ z
            · have e2 := eq_true z2
              repeat (first | refine W.seq ?_ | refine W.block ?_ | refine W.skip ?_ | refine W.exit ?_ | refine W.region tab_ok 0 (by decide) (exec_run (by simp only [exa, beq_self_eq_true, ByteArray.size, Nat.reduceAdd, Nat.reduceLeDiff, Nat.reduceEqDiff, Nat.reduceMul, Int.reduceToNat, reduceIte, Int.reduceLE, Int.reduceNeg, at_map hz, cZ, e1, e2, decide_true, decide_false]; rfl)) ?_)
              refine W.cond rfl (fun _ => ?_) (fun h => absurd h (by simp))
              repeat (first | refine W.seq ?_ | refine W.block ?_ | refine W.skip ?_ | refine W.exit ?_ | refine W.region tab_ok 0 (by decide) (exec_run (by simp only [exa, beq_self_eq_true, ByteArray.size, Nat.reduceAdd, Nat.reduceLeDiff, Nat.reduceEqDiff, Nat.reduceMul, Int.reduceToNat, reduceIte, Int.reduceLE, Int.reduceNeg]; rfl)) ?_)
              refine W.ret ⟨.inr rfl, by rfl, ?_⟩
              simp only [Tryd.f28, resA, resOne, toT, fin, exa, beq_self_eq_true, ByteArray.size, Nat.reduceAdd, Nat.reduceLeDiff, Nat.reduceEqDiff, Nat.reduceMul, Int.reduceToNat, reduceIte, Int.reduceLE, Int.reduceNeg]
              rw [hall, allno hlt (badz (by simp [outI, z2]))]
            · have e2 := eq_false z2
              repeat (first | refine W.seq ?_ | refine W.block ?_ | refine W.skip ?_ | refine W.exit ?_ | refine W.region tab_ok 0 (by decide) (exec_run (by simp only [exa, beq_self_eq_true, ByteArray.size, Nat.reduceAdd, Nat.reduceLeDiff, Nat.reduceEqDiff, Nat.reduceMul, Int.reduceToNat, reduceIte, Int.reduceLE, Int.reduceNeg, at_map hz, cZ, e1, e2, decide_false]; rfl)) ?_)
              refine W.cond rfl (fun h => absurd h (by simp)) (fun _ => ?_)
              repeat (first | refine W.seq ?_ | refine W.block ?_ | refine W.skip ?_ | refine W.exit ?_ | refine W.region tab_ok 0 (by decide) (exec_run (by simp only [exa, beq_self_eq_true, ByteArray.size, Nat.reduceAdd, Nat.reduceLeDiff, Nat.reduceEqDiff, Nat.reduceMul, Int.reduceToNat, reduceIte, Int.reduceLE, Int.reduceNeg]; rfl)) ?_)
              refine ⟨q + 1, ⟨hq2, any_take hz hqn (by simp [outI, z1, z2])⟩, by omega, ?_⟩
              refine le_mk ?sle ?mle ?swf ?mwf (kept_not hkeep) (by rfl)
              case swf => repeat (first | exact swf_top _ | refine swf_upd ?_ (by simp [A.ids, upd_app, wrap_succ (show q + 1 < 9223372036854775808 by omega)]))
              case mwf => repeat (first | exact mwf_nil _ | refine mwf_upd ?_ (by simp [A.ids, O.ids, upd_app, wrap_succ (show q + 1 < 9223372036854775808 by omega)]))
              case mle => repeat (first | exact mle_nil _ | exact mle_refl _ | refine mle_upd ?_ (by first | rfl | (simp only [upd_app, killM_app, O.kill, A.kill, Nat.reduceEqDiff, reduceIte, Option.map_some, Option.map_none, List.map_cons, List.map_nil, wrap_succ (show q + 1 < 9223372036854775808 by omega)]; done)))
              case sle => repeat (first | exact sle_top _ | exact sle_refl _ | refine sle_upd ?_ (by first | rfl | (simp only [upd_app, killS_app, A.kill, entry_zero, entry_succ, Nat.reduceEqDiff, reduceIte, wrap_succ (show q + 1 < 9223372036854775808 by omega)]; done)))
        · intro hq2
          simp only [decide_eq_false_iff_not, Int.ofNat_lt] at hq2
          obtain rfl : q = (nx code i).length := by omega
          rw [List.take_length] at hqn
          repeat (first | refine W.seq ?_ | refine W.block ?_ | refine W.skip ?_ | refine W.exit ?_ | refine W.region tab_ok 0 (by decide) (exec_run (by simp only [exa, beq_self_eq_true, ByteArray.size, Nat.reduceAdd, Nat.reduceLeDiff, Nat.reduceEqDiff, Nat.reduceMul, Int.reduceToNat, reduceIte, Int.reduceLE, Int.reduceNeg]; rfl)) ?_)
          refine W.regionK tab_ok 0 (by decide) ?_
          refine runk_split 1 (by simp only [exa, beq_self_eq_true, ByteArray.size, Nat.reduceAdd, Nat.reduceLeDiff, Nat.reduceEqDiff, Nat.reduceMul, Int.reduceToNat, reduceIte, Int.reduceLE, Int.reduceNeg, hxc]; rfl) ?_
          refine runk_call rfl rfl rfl rfl rfl (by simp) (cvs_cons cv_refl cvs_nil) (hus _) ?_
          refine runk_exec (by simp only [exa, beq_self_eq_true, ByteArray.size, Nat.reduceAdd, Nat.reduceLeDiff, Nat.reduceEqDiff, Nat.reduceMul, Int.reduceToNat, reduceIte, Int.reduceLE, Int.reduceNeg, List.length_map]; rfl) ?_
          (repeat (first | refine W.seq ?_ | refine W.block ?_ | refine W.skip ?_ | refine W.exit ?_))
          refine W.loop (ι := Nat) (fun q => ⟨upd (upd (upd (upd (upd (upd (upd (upd (upd (upd (fun _ => .top) 1 (.ptr 1 0)) 3 (.c (.int .i64 code.length))) 30 (.c (.sl (code.map cIns)))) 31 (.c (.int .i64 code.length))) 32 (.c (.int .i64 i))) 4 (.c (.int .i64 i))) 5 (.ptr 5 0)) 54 (.c (.sl ((usI x).map cZ)))) 55 (.c (.int .i64 (usI x).length))) 56 (.c (.int .i64 q)), upd (upd Mem.nil 1 (some (.box 24 [.c (.str cls), .c (.str name), .c (.int .i64 params), .c (.int .i64 regs), .c (.sl (code.map cIns))]))) 5 (some (.box 41 [.c (.int .i64 x.kind), .c (.int .i64 x.dst), .c (.int .i64 x.a), .c (.int .i64 x.b), .c (.int .i64 x.c), .c (.int .i64 x.tt), .c (.int .i64 x.els), .c (.int .i64 x.num), .c (.str x.name), .c (.sl (x.args.map fun z => [C.int .i64 z]))]))⟩) (fun q => q ≤ (usI x).length ∧ ((usI x).take q).any (outI regs) = false) (fun q => (usI x).length - q) 0 ?start3 ⟨Nat.zero_le _, rfl⟩ ?round3
          case start3 =>
            refine le_mk ?sle ?mle ?swf ?mwf (kept_not hkeep) (by rfl)
            case swf => repeat (first | exact swf_top _ | refine swf_upd ?_ (by simp [A.ids, upd_app]))
            case mwf => repeat (first | exact mwf_nil _ | refine mwf_upd ?_ (by simp [A.ids, O.ids, upd_app]))
            case mle => repeat (first | exact mle_nil _ | exact mle_refl _ | refine mle_upd ?_ (by first | rfl | (simp only [upd_app, killM_app, O.kill, A.kill, Nat.reduceEqDiff, reduceIte, Option.map_some, Option.map_none, List.map_cons, List.map_nil]; done)))
            case sle => repeat (first | exact sle_top _ | exact sle_refl _ | refine sle_upd ?_ (by first | rfl | (simp only [upd_app, killS_app, A.kill, entry_zero, entry_succ, Nat.reduceEqDiff, reduceIte]; done)))
          case round3 =>
            rintro q ⟨hql, hqm⟩
            repeat (first | refine W.seq ?_ | refine W.block ?_ | refine W.skip ?_ | refine W.exit ?_ | refine W.region tab_ok 0 (by decide) (exec_run (by simp only [exa, beq_self_eq_true, ByteArray.size, Nat.reduceAdd, Nat.reduceLeDiff, Nat.reduceEqDiff, Nat.reduceMul, Int.reduceToNat, reduceIte, Int.reduceLE, Int.reduceNeg]; rfl)) ?_)
            refine W.cond rfl ?_ ?_
            · intro hq3
              simp only [decide_eq_true_eq, Int.ofNat_lt] at hq3
              obtain ⟨z, hz⟩ : ∃ z, (usI x)[q]? = some z := ⟨_, List.getElem?_eq_getElem hq3⟩
              have badz : outI regs z = true → insB code.length regs code i = false := fun h => by
                rw [hbad, show (rgI x).any (outI regs) = true from List.any_eq_true.2 ⟨z, List.mem_append_left _ (List.mem_of_getElem? hz), h⟩]; simp
              by_cases z1 : z < 0
              · have e1 := eq_true z1
                repeat (first | refine W.seq ?_ | refine W.block ?_ | refine W.skip ?_ | refine W.exit ?_ | refine W.region tab_ok 0 (by decide) (exec_run (by simp only [exa, beq_self_eq_true, ByteArray.size, Nat.reduceAdd, Nat.reduceLeDiff, Nat.reduceEqDiff, Nat.reduceMul, Int.reduceToNat, reduceIte, Int.reduceLE, Int.reduceNeg, at_map hz, cZ, e1, decide_true]; rfl)) ?_)
                refine W.cond rfl (fun _ => ?_) (fun h => absurd h (by simp))
                repeat (first | refine W.seq ?_ | refine W.block ?_ | refine W.skip ?_ | refine W.exit ?_ | refine W.region tab_ok 0 (by decide) (exec_run (by simp only [exa, beq_self_eq_true, ByteArray.size, Nat.reduceAdd, Nat.reduceLeDiff, Nat.reduceEqDiff, Nat.reduceMul, Int.reduceToNat, reduceIte, Int.reduceLE, Int.reduceNeg]; rfl)) ?_)
                refine W.ret ⟨.inr rfl, by rfl, ?_⟩
                simp only [Tryd.f28, resA, resOne, toT, fin, exa, beq_self_eq_true, ByteArray.size, Nat.reduceAdd, Nat.reduceLeDiff, Nat.reduceEqDiff, Nat.reduceMul, Int.reduceToNat, reduceIte, Int.reduceLE, Int.reduceNeg]
                rw [hall, allno hlt (badz (by simp [outI, z1]))]
              · have e1 := eq_false z1
                by_cases z2 : regs ≤ z
                · have e2 := eq_true z2
                  repeat (first | refine W.seq ?_ | refine W.block ?_ | refine W.skip ?_ | refine W.exit ?_ | refine W.region tab_ok 0 (by decide) (exec_run (by simp only [exa, beq_self_eq_true, ByteArray.size, Nat.reduceAdd, Nat.reduceLeDiff, Nat.reduceEqDiff, Nat.reduceMul, Int.reduceToNat, reduceIte, Int.reduceLE, Int.reduceNeg, at_map hz, cZ, e1, e2, decide_true, decide_false]; rfl)) ?_)
                  refine W.cond rfl (fun _ => ?_) (fun h => absurd h (by simp))
                  repeat (first | refine W.seq ?_ | refine W.block ?_ | refine W.skip ?_ | refine W.exit ?_ | refine W.region tab_ok 0 (by decide) (exec_run (by simp only [exa, beq_self_eq_true, ByteArray.size, Nat.reduceAdd, Nat.reduceLeDiff, Nat.reduceEqDiff, Nat.reduceMul, Int.reduceToNat, reduceIte, Int.reduceLE, Int.reduceNeg]; rfl)) ?_)
                  refine W.ret ⟨.inr rfl, by rfl, ?_⟩
                  simp only [Tryd.f28, resA, resOne, toT, fin, exa, beq_self_eq_true, ByteArray.size, Nat.reduceAdd, Nat.reduceLeDiff, Nat.reduceEqDiff, Nat.reduceMul, Int.reduceToNat, reduceIte, Int.reduceLE, Int.reduceNeg]
                  rw [hall, allno hlt (badz (by simp [outI, z2]))]
                · have e2 := eq_false z2
                  repeat (first | refine W.seq ?_ | refine W.block ?_ | refine W.skip ?_ | refine W.exit ?_ | refine W.region tab_ok 0 (by decide) (exec_run (by simp only [exa, beq_self_eq_true, ByteArray.size, Nat.reduceAdd, Nat.reduceLeDiff, Nat.reduceEqDiff, Nat.reduceMul, Int.reduceToNat, reduceIte, Int.reduceLE, Int.reduceNeg, at_map hz, cZ, e1, e2, decide_false]; rfl)) ?_)
                  refine W.cond rfl (fun h => absurd h (by simp)) (fun _ => ?_)
                  repeat (first | refine W.seq ?_ | refine W.block ?_ | refine W.skip ?_ | refine W.exit ?_ | refine W.region tab_ok 0 (by decide) (exec_run (by simp only [exa, beq_self_eq_true, ByteArray.size, Nat.reduceAdd, Nat.reduceLeDiff, Nat.reduceEqDiff, Nat.reduceMul, Int.reduceToNat, reduceIte, Int.reduceLE, Int.reduceNeg]; rfl)) ?_)
                  refine ⟨q + 1, ⟨hq3, any_take hz hqm (by simp [outI, z1, z2])⟩, by omega, ?_⟩
                  refine le_mk ?sle ?mle ?swf ?mwf (kept_not hkeep) (by rfl)
                  case swf => repeat (first | exact swf_top _ | refine swf_upd ?_ (by simp [A.ids, upd_app, wrap_succ (show q + 1 < 9223372036854775808 by omega)]))
                  case mwf => repeat (first | exact mwf_nil _ | refine mwf_upd ?_ (by simp [A.ids, O.ids, upd_app, wrap_succ (show q + 1 < 9223372036854775808 by omega)]))
                  case mle => repeat (first | exact mle_nil _ | exact mle_refl _ | refine mle_upd ?_ (by first | rfl | (simp only [upd_app, killM_app, O.kill, A.kill, Nat.reduceEqDiff, reduceIte, Option.map_some, Option.map_none, List.map_cons, List.map_nil, wrap_succ (show q + 1 < 9223372036854775808 by omega)]; done)))
                  case sle => repeat (first | exact sle_top _ | exact sle_refl _ | refine sle_upd ?_ (by first | rfl | (simp only [upd_app, killS_app, A.kill, entry_zero, entry_succ, Nat.reduceEqDiff, reduceIte, wrap_succ (show q + 1 < 9223372036854775808 by omega)]; done)))
            · intro hq3
              simp only [decide_eq_false_iff_not, Int.ofNat_lt] at hq3
              obtain rfl : q = (usI x).length := by omega
              rw [List.take_length] at hqm
              repeat (first | refine W.seq ?_ | refine W.block ?_ | refine W.skip ?_ | refine W.exit ?_ | refine W.region tab_ok 0 (by decide) (exec_run (by simp only [exa, beq_self_eq_true, ByteArray.size, Nat.reduceAdd, Nat.reduceLeDiff, Nat.reduceEqDiff, Nat.reduceMul, Int.reduceToNat, reduceIte, Int.reduceLE, Int.reduceNeg]; rfl)) ?_)
              refine W.regionK tab_ok 0 (by decide) ?_
              refine runk_split 2 (by simp only [exa, beq_self_eq_true, ByteArray.size, Nat.reduceAdd, Nat.reduceLeDiff, Nat.reduceEqDiff, Nat.reduceMul, Int.reduceToNat, reduceIte, Int.reduceLE, Int.reduceNeg]; rfl) ?_
              refine runk_call rfl rfl rfl rfl rfl (by simp) (cvs_cons cv_refl (cvs_cons cv_refl cvs_nil)) (hhd _) ?_
              cases hd : hasD x.kind with
              | false =>
                have hgd : insB code.length regs code i = true := by
                  rw [hbad, hqn]
                  unfold rgI
                  rw [List.any_append, hqm, hd]; rfl
                refine runk_exec (by simp only [exa, beq_self_eq_true, ByteArray.size, Nat.reduceAdd, Nat.reduceLeDiff, Nat.reduceEqDiff, Nat.reduceMul, Int.reduceToNat, reduceIte, Int.reduceLE, Int.reduceNeg, hd]; rfl) ?_
                refine W.cond rfl (fun h => absurd h (by simp)) (fun _ => ?_)
                repeat (first | refine W.seq ?_ | refine W.block ?_ | refine W.skip ?_ | refine W.exit ?_ | refine W.region tab_ok 0 (by decide) (exec_run (by simp only [exa, beq_self_eq_true, ByteArray.size, Nat.reduceAdd, Nat.reduceLeDiff, Nat.reduceEqDiff, Nat.reduceMul, Int.reduceToNat, reduceIte, Int.reduceLE, Int.reduceNeg]; rfl)) ?_)
                refine ⟨i + 1, ⟨hlt, by rw [List.range_succ, List.all_append, hin]; simp [hgd]⟩, by omega, ?_⟩
                refine le_mk ?sle ?mle ?swf ?mwf (kept_not hkeep) (by rfl)
                case swf => repeat (first | exact swf_top _ | refine swf_upd ?_ (by simp [A.ids, upd_app, wrap_succ (show i + 1 < 9223372036854775808 by omega)]))
                case mwf => repeat (first | exact mwf_nil _ | refine mwf_upd ?_ (by simp [A.ids, O.ids, upd_app, wrap_succ (show i + 1 < 9223372036854775808 by omega)]))
                case mle => repeat (first | exact mle_nil _ | exact mle_refl _ | refine mle_upd ?_ (by first | rfl | (simp only [upd_app, killM_app, O.kill, A.kill, Nat.reduceEqDiff, reduceIte, Option.map_some, Option.map_none, List.map_cons, List.map_nil, wrap_succ (show i + 1 < 9223372036854775808 by omega)]; done)))
                case sle => repeat (first | exact sle_top _ | exact sle_refl _ | refine sle_upd ?_ (by first | rfl | (simp only [upd_app, killS_app, A.kill, entry_zero, entry_succ, Nat.reduceEqDiff, reduceIte, wrap_succ (show i + 1 < 9223372036854775808 by omega)]; done)))
              | true =>
                have hr : (rgI x).any (outI regs) = outI regs x.dst := by
                  unfold rgI
                  rw [List.any_append, hqm, hd]; simp
                by_cases z1 : x.dst < 0
                · have e1 := eq_true z1
                  have hbd : insB code.length regs code i = false := by rw [hbad, hr]; simp [outI, z1]
                  refine runk_exec (by simp only [exa, beq_self_eq_true, ByteArray.size, Nat.reduceAdd, Nat.reduceLeDiff, Nat.reduceEqDiff, Nat.reduceMul, Int.reduceToNat, reduceIte, Int.reduceLE, Int.reduceNeg, hd, e1, decide_true]; rfl) ?_
                  refine W.cond rfl (fun _ => ?_) (fun h => absurd h (by simp))
                  repeat (first | refine W.seq ?_ | refine W.block ?_ | refine W.skip ?_ | refine W.exit ?_ | refine W.region tab_ok 0 (by decide) (exec_run (by simp only [exa, beq_self_eq_true, ByteArray.size, Nat.reduceAdd, Nat.reduceLeDiff, Nat.reduceEqDiff, Nat.reduceMul, Int.reduceToNat, reduceIte, Int.reduceLE, Int.reduceNeg]; rfl)) ?_)
                  refine W.ret ⟨.inr rfl, by rfl, ?_⟩
                  simp only [Tryd.f28, resA, resOne, toT, fin, exa, beq_self_eq_true, ByteArray.size, Nat.reduceAdd, Nat.reduceLeDiff, Nat.reduceEqDiff, Nat.reduceMul, Int.reduceToNat, reduceIte, Int.reduceLE, Int.reduceNeg]
                  rw [hall, allno hlt hbd]
                · have e1 := eq_false z1
                  by_cases z2 : regs ≤ x.dst
                  · have e2 := eq_true z2
                    have hbd : insB code.length regs code i = false := by rw [hbad, hr]; simp [outI, z2]
                    refine runk_exec (by simp only [exa, beq_self_eq_true, ByteArray.size, Nat.reduceAdd, Nat.reduceLeDiff, Nat.reduceEqDiff, Nat.reduceMul, Int.reduceToNat, reduceIte, Int.reduceLE, Int.reduceNeg, hd, e1, e2, decide_true, decide_false]; rfl) ?_
                    refine W.cond rfl (fun _ => ?_) (fun h => absurd h (by simp))
                    repeat (first | refine W.seq ?_ | refine W.block ?_ | refine W.skip ?_ | refine W.exit ?_ | refine W.region tab_ok 0 (by decide) (exec_run (by simp only [exa, beq_self_eq_true, ByteArray.size, Nat.reduceAdd, Nat.reduceLeDiff, Nat.reduceEqDiff, Nat.reduceMul, Int.reduceToNat, reduceIte, Int.reduceLE, Int.reduceNeg]; rfl)) ?_)
                    refine W.ret ⟨.inr rfl, by rfl, ?_⟩
                    simp only [Tryd.f28, resA, resOne, toT, fin, exa, beq_self_eq_true, ByteArray.size, Nat.reduceAdd, Nat.reduceLeDiff, Nat.reduceEqDiff, Nat.reduceMul, Int.reduceToNat, reduceIte, Int.reduceLE, Int.reduceNeg]
                    rw [hall, allno hlt hbd]
                  · have e2 := eq_false z2
                    have hgd : insB code.length regs code i = true := by rw [hbad, hqn, hr]; simp [outI, z1, z2]
                    refine runk_exec (by simp only [exa, beq_self_eq_true, ByteArray.size, Nat.reduceAdd, Nat.reduceLeDiff, Nat.reduceEqDiff, Nat.reduceMul, Int.reduceToNat, reduceIte, Int.reduceLE, Int.reduceNeg, hd, e1, e2, decide_false]; rfl) ?_
                    refine W.cond rfl (fun h => absurd h (by simp)) (fun _ => ?_)
                    repeat (first | refine W.seq ?_ | refine W.block ?_ | refine W.skip ?_ | refine W.exit ?_ | refine W.region tab_ok 0 (by decide) (exec_run (by simp only [exa, beq_self_eq_true, ByteArray.size, Nat.reduceAdd, Nat.reduceLeDiff, Nat.reduceEqDiff, Nat.reduceMul, Int.reduceToNat, reduceIte, Int.reduceLE, Int.reduceNeg]; rfl)) ?_)
                    refine ⟨i + 1, ⟨hlt, by rw [List.range_succ, List.all_append, hin]; simp [hgd]⟩, by omega, ?_⟩
                    refine le_mk ?sle ?mle ?swf ?mwf (kept_not hkeep) (by rfl)
                    case swf => repeat (first | exact swf_top _ | refine swf_upd ?_ (by simp [A.ids, upd_app, wrap_succ (show i + 1 < 9223372036854775808 by omega)]))
                    case mwf => repeat (first | exact mwf_nil _ | refine mwf_upd ?_ (by simp [A.ids, O.ids, upd_app, wrap_succ (show i + 1 < 9223372036854775808 by omega)]))
                    case mle => repeat (first | exact mle_nil _ | exact mle_refl _ | refine mle_upd ?_ (by first | rfl | (simp only [upd_app, killM_app, O.kill, A.kill, Nat.reduceEqDiff, reduceIte, Option.map_some, Option.map_none, List.map_cons, List.map_nil, wrap_succ (show i + 1 < 9223372036854775808 by omega)]; done)))
                    case sle => repeat (first | exact sle_top _ | exact sle_refl _ | refine sle_upd ?_ (by first | rfl | (simp only [upd_app, killS_app, A.kill, entry_zero, entry_succ, Nat.reduceEqDiff, reduceIte, wrap_succ (show i + 1 < 9223372036854775808 by omega)]; done)))
    · intro hge
      simp only [decide_eq_false_iff_not, Int.ofNat_lt] at hge
      obtain rfl : i = code.length := by omega
      repeat (first | refine W.seq ?_ | refine W.block ?_ | refine W.skip ?_ | refine W.exit ?_ | refine W.region tab_ok 0 (by decide) (exec_run (by simp only [exa, beq_self_eq_true, ByteArray.size, Nat.reduceAdd, Nat.reduceLeDiff, Nat.reduceEqDiff, Nat.reduceMul, Int.reduceToNat, reduceIte, Int.reduceLE, Int.reduceNeg]; rfl)) ?_)
      refine W.ret ⟨.inr rfl, by rfl, ?_⟩
      simp only [Tryd.f28, resA, resOne, toT, fin, exa, beq_self_eq_true, ByteArray.size, Nat.reduceAdd, Nat.reduceLeDiff, Nat.reduceEqDiff, Nat.reduceMul, Int.reduceToNat, reduceIte, Int.reduceLE, Int.reduceNeg]
      rw [hall, hin]
end V
end Go.Proofs.YtcldeoolglhdoaaDoor
end
section
set_option linter.unusedVariables false
set_option linter.unusedSimpArgs false
namespace Go.Proofs.YtcldeoolglhdoaaDoor
namespace V
open Go.RowKit G C17
set_option maxHeartbeats 4000000 in
theorem refNextE_ok (p : Prc) (i : Nat) (hp : p.code.length ≤ 1000000000000000) (hlt : i < p.code.length) (M : Mem) (q : Nat) (hM : M q = none) : CallE Tryd.prog 15 [.agg (cP p), .c (.int .i64 i)] M [] (.own q) (upd M q (some (.mrow 3 1 ((nx p.code i).map cZ)))) := by
  obtain ⟨cls, name, params, regs, code⟩ := p
  simp only at hp hlt ⊢
  have hcp : cP ⟨cls, name, params, regs, code⟩ = [.str cls, .str name, .int .i64 params, .int .i64 regs, .sl (code.map cIns)] := rfl
  rw [hcp]
  have n0 : ((i : Int) < 0) = False := eq_false (by omega)
  have i0 : ((0 : Int) ≤ (i : Int)) = True := eq_true (by omega)
  refine ok_own (o := .mrow 3 1 ((nx code i).map cZ)) tab_ok Tryd.func15 (by kernel_rfl) rfl rfl (by rfl) (by rfl) ⟨_, _, _, .inr rfl⟩ (fun R hkeep => ?_) M q hM
  (repeat (first | refine W.seq ?_ | refine W.block ?_ | refine W.skip ?_ | refine W.exit ?_))
  refine W.region tab_ok 0 (by decide) (exec_run (by simp only [exa, beq_self_eq_true, ByteArray.size, Nat.reduceAdd, Nat.reduceLeDiff, Nat.reduceEqDiff, Nat.reduceMul, Int.reduceToNat, reduceIte, Int.reduceLE, Int.reduceNeg]; rfl)) ?_
  have g0 : ((code.length : Int) ≤ (i : Int)) = False := eq_false (by omega)
  have l0 := eq_true hlt
  obtain ⟨x, hx⟩ : ∃ x, code[i]? = some x := ⟨_, List.getElem?_eq_getElem hlt⟩
  have hnx : nx code i = goesI i x := by unfold nx; rw [hx]
  rw [hnx]
  obtain ⟨k, d, a, b, c, t, e, nm, s, ar⟩ := x
  have hcx : cIns ⟨k, d, a, b, c, t, e, nm, s, ar⟩ = [.int .i64 k, .int .i64 d, .int .i64 a, .int .i64 b, .int .i64 c, .int .i64 t, .int .i64 e, .int .i64 nm, .str s, .sl (ar.map fun z => [C.int .i64 z])] := rfl
  repeat (first | refine W.seq ?_ | refine W.block ?_ | refine W.skip ?_ | refine W.exit ?_ | refine W.region tab_ok 0 (by decide) (exec_run (by simp only [exa, beq_self_eq_true, ByteArray.size, Nat.reduceAdd, Nat.reduceLeDiff, Nat.reduceEqDiff, Nat.reduceMul, Int.reduceToNat, reduceIte, Int.reduceLE, Int.reduceNeg, n0, g0, decide_false]; rfl)) ?_)
  refine W.cond rfl (fun h => absurd h (by simp)) (fun _ => ?_)
  (repeat (first | refine W.seq ?_ | refine W.block ?_ | refine W.skip ?_ | refine W.exit ?_))
  refine W.region tab_ok 0 (by decide) (exec_run (by simp only [exa, beq_self_eq_true, ByteArray.size, Nat.reduceAdd, Nat.reduceLeDiff, Nat.reduceEqDiff, Nat.reduceMul, Int.reduceToNat, reduceIte, Int.reduceLE, Int.reduceNeg, at_map hx, hcx, i0, l0, and_self, List.length_map, Int.toNat_natCast]; rfl)) ?_
  (repeat (first | refine W.seq ?_ | refine W.block ?_ | refine W.skip ?_ | refine W.exit ?_))
  refine W.region tab_ok 0 (by decide) (exec_run (by simp only [exa, beq_self_eq_true, ByteArray.size, Nat.reduceAdd, Nat.reduceLeDiff, Nat.reduceEqDiff, Nat.reduceMul, Int.reduceToNat, reduceIte, Int.reduceLE, Int.reduceNeg]; rfl)) ?_
  have key : (k = 18 ∨ k = 19) ∨ k = 17 ∨ k = 16 ∨ (k ≠ 18 ∧ k ≠ 19 ∧ k ≠ 17 ∧ k ≠ 16) := by omega
  rcases key with hk | rfl | rfl | ⟨h18, h19, h17, h16⟩
  · have hg : goesI i ⟨k, d, a, b, c, t, e, nm, s, ar⟩ = [] := by unfold goesI; rw [if_pos hk]
    rw [hg]
    rcases hk with rfl | rfl
    · skip
      (repeat (first | refine W.seq ?_ | refine W.block ?_ | refine W.skip ?_ | refine W.exit ?_))
      refine W.region tab_ok 0 (by decide) (exec_run (by simp only [exa, beq_self_eq_true, ByteArray.size, Nat.reduceAdd, Nat.reduceLeDiff, Nat.reduceEqDiff, Nat.reduceMul, Int.reduceToNat, reduceIte, Int.reduceLE, Int.reduceNeg, decide_true, decide_false, Int.reduceEq, eq_self]; rfl)) ?_
      refine W.cond rfl (fun h => absurd h (by simp)) (fun _ => ?_)
      repeat (first | refine W.seq ?_ | refine W.block ?_ | refine W.skip ?_ | refine W.exit ?_ | refine W.region tab_ok 0 (by decide) (exec_run (by simp only [exa, beq_self_eq_true, ByteArray.size, Nat.reduceAdd, Nat.reduceLeDiff, Nat.reduceEqDiff, Nat.reduceMul, Int.reduceToNat, reduceIte, Int.reduceLE, Int.reduceNeg, decide_true, decide_false, Int.reduceEq, eq_self]; rfl)) ?_)
      refine W.cond rfl (fun h => absurd h (by simp)) (fun _ => ?_)
      repeat (first | refine W.seq ?_ | refine W.block ?_ | refine W.skip ?_ | refine W.exit ?_ | refine W.region tab_ok 0 (by decide) (exec_run (by simp only [exa, beq_self_eq_true, ByteArray.size, Nat.reduceAdd, Nat.reduceLeDiff, Nat.reduceEqDiff, Nat.reduceMul, Int.reduceToNat, reduceIte, Int.reduceLE, Int.reduceNeg, decide_true, decide_false, Int.reduceEq, eq_self]; rfl)) ?_)
      refine W.cond rfl (fun _ => ?_) (fun h => absurd h (by simp))
      repeat (first | refine W.seq ?_ | refine W.block ?_ | refine W.skip ?_ | refine W.exit ?_ | refine W.region tab_ok 0 (by decide) (exec_run (by simp only [exa, beq_self_eq_true, ByteArray.size, Nat.reduceAdd, Nat.reduceLeDiff, Nat.reduceEqDiff, Nat.reduceMul, Int.reduceToNat, reduceIte, Int.reduceLE, Int.reduceNeg]; rfl)) ?_)
      refine W.cond rfl (fun _ => ?_) (fun h => absurd h (by simp))
      repeat (first | refine W.seq ?_ | refine W.block ?_ | refine W.skip ?_ | refine W.exit ?_ | refine W.region tab_ok 0 (by decide) (exec_run (by simp only [exa, beq_self_eq_true, ByteArray.size, Nat.reduceAdd, Nat.reduceLeDiff, Nat.reduceEqDiff, Nat.reduceMul, Int.reduceToNat, reduceIte, Int.reduceLE, Int.reduceNeg]; rfl)) ?_)
      refine W.newM 4 48 3 1 rfl rfl ?_
      refine W.ret ⟨.inr rfl, by rfl, _, by simp only [Tryd.f15, resE, resOne, exa, beq_self_eq_true, ByteArray.size, Nat.reduceAdd, Nat.reduceLeDiff, Nat.reduceEqDiff, Nat.reduceMul, Int.reduceToNat, reduceIte, Int.reduceLE, Int.reduceNeg] <;> rfl, ?_⟩
      first | rfl | (simp only [exa, beq_self_eq_true, ByteArray.size, Nat.reduceAdd, Nat.reduceLeDiff, Nat.reduceEqDiff, Nat.reduceMul, Int.reduceToNat, reduceIte, Int.reduceLE, Int.reduceNeg, cZ, List.map_cons, List.map_nil]; done) | (simp only [exa, beq_self_eq_true, ByteArray.size, Nat.reduceAdd, Nat.reduceLeDiff, Nat.reduceEqDiff, Nat.reduceMul, Int.reduceToNat, reduceIte, Int.reduceLE, Int.reduceNeg, cZ, List.map_cons, List.map_nil]; rfl)
    · skip
      (repeat (first | refine W.seq ?_ | refine W.block ?_ | refine W.skip ?_ | refine W.exit ?_))
      refine W.region tab_ok 0 (by decide) (exec_run (by simp only [exa, beq_self_eq_true, ByteArray.size, Nat.reduceAdd, Nat.reduceLeDiff, Nat.reduceEqDiff, Nat.reduceMul, Int.reduceToNat, reduceIte, Int.reduceLE, Int.reduceNeg, decide_true, decide_false, Int.reduceEq, eq_self]; rfl)) ?_
      refine W.cond rfl (fun h => absurd h (by simp)) (fun _ => ?_)
      repeat (first | refine W.seq ?_ | refine W.block ?_ | refine W.skip ?_ | refine W.exit ?_ | refine W.region tab_ok 0 (by decide) (exec_run (by simp only [exa, beq_self_eq_true, ByteArray.size, Nat.reduceAdd, Nat.reduceLeDiff, Nat.reduceEqDiff, Nat.reduceMul, Int.reduceToNat, reduceIte, Int.reduceLE, Int.reduceNeg, decide_true, decide_false, Int.reduceEq, eq_self]; rfl)) ?_)
      refine W.cond rfl (fun h => absurd h (by simp)) (fun _ => ?_)
      repeat (first | refine W.seq ?_ | refine W.block ?_ | refine W.skip ?_ | refine W.exit ?_ | refine W.region tab_ok 0 (by decide) (exec_run (by simp only [exa, beq_self_eq_true, ByteArray.size, Nat.reduceAdd, Nat.reduceLeDiff, Nat.reduceEqDiff, Nat.reduceMul, Int.reduceToNat, reduceIte, Int.reduceLE, Int.reduceNeg, decide_true, decide_false, Int.reduceEq, eq_self]; rfl)) ?_)
      refine W.cond rfl (fun h => absurd h (by simp)) (fun _ => ?_)
      repeat (first | refine W.seq ?_ | refine W.block ?_ | refine W.skip ?_ | refine W.exit ?_ | refine W.region tab_ok 0 (by decide) (exec_run (by simp only [exa, beq_self_eq_true, ByteArray.size, Nat.reduceAdd, Nat.reduceLeDiff, Nat.reduceEqDiff, Nat.reduceMul, Int.reduceToNat, reduceIte, Int.reduceLE, Int.reduceNeg, decide_true, decide_false, Int.reduceEq, eq_self]; rfl)) ?_)
      refine W.cond rfl (fun _ => ?_) (fun h => absurd h (by simp))
      repeat (first | refine W.seq ?_ | refine W.block ?_ | refine W.skip ?_ | refine W.exit ?_ | refine W.region tab_ok 0 (by decide) (exec_run (by simp only [exa, beq_self_eq_true, ByteArray.size, Nat.reduceAdd, Nat.reduceLeDiff, Nat.reduceEqDiff, Nat.reduceMul, Int.reduceToNat, reduceIte, Int.reduceLE, Int.reduceNeg]; rfl)) ?_)
      refine W.newM 4 48 3 1 rfl rfl ?_
      refine W.ret ⟨.inr rfl, by rfl, _, by simp only [Tryd.f15, resE, resOne, exa, beq_self_eq_true, ByteArray.size, Nat.reduceAdd, Nat.reduceLeDiff, Nat.reduceEqDiff, Nat.reduceMul, Int.reduceToNat, reduceIte, Int.reduceLE, Int.reduceNeg] <;> rfl, ?_⟩
      first | rfl | (simp only [exa, beq_self_eq_true, ByteArray.size, Nat.reduceAdd, Nat.reduceLeDiff, Nat.reduceEqDiff, Nat.reduceMul, Int.reduceToNat, reduceIte, Int.reduceLE, Int.reduceNeg, cZ, List.map_cons, List.map_nil]; done) | (simp only [exa, beq_self_eq_true, ByteArray.size, Nat.reduceAdd, Nat.reduceLeDiff, Nat.reduceEqDiff, Nat.reduceMul, Int.reduceToNat, reduceIte, Int.reduceLE, Int.reduceNeg, cZ, List.map_cons, List.map_nil]; rfl)
  · have hg : goesI i ⟨17, d, a, b, c, t, e, nm, s, ar⟩ = [t] := by unfold goesI; rw [if_neg (by simp), if_pos (.inl rfl)]
    rw [hg]
    (repeat (first | refine W.seq ?_ | refine W.block ?_ | refine W.skip ?_ | refine W.exit ?_))
    refine W.region tab_ok 0 (by decide) (exec_run (by simp only [exa, beq_self_eq_true, ByteArray.size, Nat.reduceAdd, Nat.reduceLeDiff, Nat.reduceEqDiff, Nat.reduceMul, Int.reduceToNat, reduceIte, Int.reduceLE, Int.reduceNeg, decide_true, decide_false, Int.reduceEq, eq_self]; rfl)) ?_
    refine W.cond rfl (fun h => absurd h (by simp)) (fun _ => ?_)
    repeat (first | refine W.seq ?_ | refine W.block ?_ | refine W.skip ?_ | refine W.exit ?_ | refine W.region tab_ok 0 (by decide) (exec_run (by simp only [exa, beq_self_eq_true, ByteArray.size, Nat.reduceAdd, Nat.reduceLeDiff, Nat.reduceEqDiff, Nat.reduceMul, Int.reduceToNat, reduceIte, Int.reduceLE, Int.reduceNeg, decide_true, decide_false, Int.reduceEq, eq_self]; rfl)) ?_)
    refine W.cond rfl (fun _ => ?_) (fun h => absurd h (by simp))
    (repeat (first | refine W.seq ?_ | refine W.block ?_ | refine W.skip ?_ | refine W.exit ?_))
    refine W.region L.tab_ok 0 (by decide) (exec_run (by simp only [exa, beq_self_eq_true, ByteArray.size, Nat.reduceAdd, Nat.reduceLeDiff, Nat.reduceEqDiff, Nat.reduceMul, Int.reduceToNat, reduceIte, Int.reduceLE, Int.reduceNeg, L.tabs]; rfl)) ?_
    refine W.ret ⟨.inr rfl, by rfl, _, by simp only [Tryd.f15, resE, resOne, exa, beq_self_eq_true, ByteArray.size, Nat.reduceAdd, Nat.reduceLeDiff, Nat.reduceEqDiff, Nat.reduceMul, Int.reduceToNat, reduceIte, Int.reduceLE, Int.reduceNeg] <;> rfl, ?_⟩
    first | rfl | (simp only [exa, beq_self_eq_true, ByteArray.size, Nat.reduceAdd, Nat.reduceLeDiff, Nat.reduceEqDiff, Nat.reduceMul, Int.reduceToNat, reduceIte, Int.reduceLE, Int.reduceNeg, cZ, List.map_cons, List.map_nil]; done) | (simp only [exa, beq_self_eq_true, ByteArray.size, Nat.reduceAdd, Nat.reduceLeDiff, Nat.reduceEqDiff, Nat.reduceMul, Int.reduceToNat, reduceIte, Int.reduceLE, Int.reduceNeg, cZ, List.map_cons, List.map_nil]; rfl)
  · skip
    (repeat (first | refine W.seq ?_ | refine W.block ?_ | refine W.skip ?_ | refine W.exit ?_))
    refine W.region tab_ok 0 (by decide) (exec_run (by simp only [exa, beq_self_eq_true, ByteArray.size, Nat.reduceAdd, Nat.reduceLeDiff, Nat.reduceEqDiff, Nat.reduceMul, Int.reduceToNat, reduceIte, Int.reduceLE, Int.reduceNeg, decide_true, decide_false, Int.reduceEq, eq_self]; rfl)) ?_
    refine W.cond rfl (fun _ => ?_) (fun h => absurd h (by simp))
    by_cases ht : t = e
    · have hg : goesI i ⟨16, d, a, b, c, t, e, nm, s, ar⟩ = [t] := by unfold goesI; rw [if_neg (by simp), if_pos (.inr ⟨rfl, ht⟩)]
      rw [hg]
      have ht := eq_true ht
      repeat (first | refine W.seq ?_ | refine W.block ?_ | refine W.skip ?_ | refine W.exit ?_ | refine W.region tab_ok 0 (by decide) (exec_run (by simp only [exa, beq_self_eq_true, ByteArray.size, Nat.reduceAdd, Nat.reduceLeDiff, Nat.reduceEqDiff, Nat.reduceMul, Int.reduceToNat, reduceIte, Int.reduceLE, Int.reduceNeg, ht, decide_true]; rfl)) ?_)
      refine W.cond rfl (fun _ => ?_) (fun h => absurd h (by simp))
      (repeat (first | refine W.seq ?_ | refine W.block ?_ | refine W.skip ?_ | refine W.exit ?_))
      refine W.region L.tab_ok 0 (by decide) (exec_run (by simp only [exa, beq_self_eq_true, ByteArray.size, Nat.reduceAdd, Nat.reduceLeDiff, Nat.reduceEqDiff, Nat.reduceMul, Int.reduceToNat, reduceIte, Int.reduceLE, Int.reduceNeg, L.tabs]; rfl)) ?_
      refine W.ret ⟨.inr rfl, by rfl, _, by simp only [Tryd.f15, resE, resOne, exa, beq_self_eq_true, ByteArray.size, Nat.reduceAdd, Nat.reduceLeDiff, Nat.reduceEqDiff, Nat.reduceMul, Int.reduceToNat, reduceIte, Int.reduceLE, Int.reduceNeg] <;> rfl, ?_⟩
      first | rfl | (simp only [exa, beq_self_eq_true, ByteArray.size, Nat.reduceAdd, Nat.reduceLeDiff, Nat.reduceEqDiff, Nat.reduceMul, Int.reduceToNat, reduceIte, Int.reduceLE, Int.reduceNeg, cZ, List.map_cons, List.map_nil]; done) | (simp only [exa, beq_self_eq_true, ByteArray.size, Nat.reduceAdd, Nat.reduceLeDiff, Nat.reduceEqDiff, Nat.reduceMul, Int.reduceToNat, reduceIte, Int.reduceLE, Int.reduceNeg, cZ, List.map_cons, List.map_nil]; rfl)
    · have hg : goesI i ⟨16, d, a, b, c, t, e, nm, s, ar⟩ = [t, e] := by unfold goesI; rw [if_neg (by simp), if_neg (by simp [ht]), if_pos rfl]
      rw [hg]
      have ht := eq_false ht
      repeat (first | refine W.seq ?_ | refine W.block ?_ | refine W.skip ?_ | refine W.exit ?_ | refine W.region tab_ok 0 (by decide) (exec_run (by simp only [exa, beq_self_eq_true, ByteArray.size, Nat.reduceAdd, Nat.reduceLeDiff, Nat.reduceEqDiff, Nat.reduceMul, Int.reduceToNat, reduceIte, Int.reduceLE, Int.reduceNeg, ht, decide_false]; rfl)) ?_)
      refine W.cond rfl (fun h => absurd h (by simp)) (fun _ => ?_)
      (repeat (first | refine W.seq ?_ | refine W.block ?_ | refine W.skip ?_ | refine W.exit ?_))
      refine W.region L.tab_ok 0 (by decide) (exec_run (by simp only [exa, beq_self_eq_true, ByteArray.size, Nat.reduceAdd, Nat.reduceLeDiff, Nat.reduceEqDiff, Nat.reduceMul, Int.reduceToNat, reduceIte, Int.reduceLE, Int.reduceNeg, L.tabs]; rfl)) ?_
      refine W.ret ⟨.inr rfl, by rfl, _, by simp only [Tryd.f15, resE, resOne, exa, beq_self_eq_true, ByteArray.size, Nat.reduceAdd, Nat.reduceLeDiff, Nat.reduceEqDiff, Nat.reduceMul, Int.reduceToNat, reduceIte, Int.reduceLE, Int.reduceNeg] <;> rfl, ?_⟩
      first | rfl | (simp only [exa, beq_self_eq_true, ByteArray.size, Nat.reduceAdd, Nat.reduceLeDiff, Nat.reduceEqDiff, Nat.reduceMul, Int.reduceToNat, reduceIte, Int.reduceLE, Int.reduceNeg, cZ, List.map_cons, List.map_nil]; done) | (simp only [exa, beq_self_eq_true, ByteArray.size, Nat.reduceAdd, Nat.reduceLeDiff, Nat.reduceEqDiff, Nat.reduceMul, Int.reduceToNat, reduceIte, Int.reduceLE, Int.reduceNeg, cZ, List.map_cons, List.map_nil]; rfl)
  · have hg : goesI i ⟨k, d, a, b, c, t, e, nm, s, ar⟩ = [((i + 1 : Nat) : Int)] := by unfold goesI; rw [if_neg (by simp [h18, h19]), if_neg (by simp [h16, h17]), if_neg h16]
    rw [hg]
    have e18 := eq_false h18
    have e19 := eq_false h19
    have e17 := eq_false h17
    have e16 := eq_false h16
    (repeat (first | refine W.seq ?_ | refine W.block ?_ | refine W.skip ?_ | refine W.exit ?_))
    refine W.region tab_ok 0 (by decide) (exec_run (by simp only [exa, beq_self_eq_true, ByteArray.size, Nat.reduceAdd, Nat.reduceLeDiff, Nat.reduceEqDiff, Nat.reduceMul, Int.reduceToNat, reduceIte, Int.reduceLE, Int.reduceNeg, decide_true, decide_false, e16]; rfl)) ?_
    refine W.cond rfl (fun h => absurd h (by simp)) (fun _ => ?_)
    repeat (first | refine W.seq ?_ | refine W.block ?_ | refine W.skip ?_ | refine W.exit ?_ | refine W.region tab_ok 0 (by decide) (exec_run (by simp only [exa, beq_self_eq_true, ByteArray.size, Nat.reduceAdd, Nat.reduceLeDiff, Nat.reduceEqDiff, Nat.reduceMul, Int.reduceToNat, reduceIte, Int.reduceLE, Int.reduceNeg, decide_true, decide_false, e17, e16]; rfl)) ?_)
    refine W.cond rfl (fun h => absurd h (by simp)) (fun _ => ?_)
    repeat (first | refine W.seq ?_ | refine W.block ?_ | refine W.skip ?_ | refine W.exit ?_ | refine W.region tab_ok 0 (by decide) (exec_run (by simp only [exa, beq_self_eq_true, ByteArray.size, Nat.reduceAdd, Nat.reduceLeDiff, Nat.reduceEqDiff, Nat.reduceMul, Int.reduceToNat, reduceIte, Int.reduceLE, Int.reduceNeg, decide_true, decide_false, e18]; rfl)) ?_)
    refine W.cond rfl (fun h => absurd h (by simp)) (fun _ => ?_)
    repeat (first | refine W.seq ?_ | refine W.block ?_ | refine W.skip ?_ | refine W.exit ?_ | refine W.region tab_ok 0 (by decide) (exec_run (by simp only [exa, beq_self_eq_true, ByteArray.size, Nat.reduceAdd, Nat.reduceLeDiff, Nat.reduceEqDiff, Nat.reduceMul, Int.reduceToNat, reduceIte, Int.reduceLE, Int.reduceNeg, decide_true, decide_false, e19]; rfl)) ?_)
    refine W.cond rfl (fun h => absurd h (by simp)) (fun _ => ?_)
    (repeat (first | refine W.seq ?_ | refine W.block ?_ | refine W.skip ?_ | refine W.exit ?_))
    refine W.region L.tab_ok 0 (by decide) (exec_run (by simp only [exa, beq_self_eq_true, ByteArray.size, Nat.reduceAdd, Nat.reduceLeDiff, Nat.reduceEqDiff, Nat.reduceMul, Int.reduceToNat, reduceIte, Int.reduceLE, Int.reduceNeg, L.tabs, wrap_succ (show i + 1 < 9223372036854775808 by omega)]; rfl)) ?_
    refine W.ret ⟨.inr rfl, by rfl, _, by simp only [Tryd.f15, resE, resOne, exa, beq_self_eq_true, ByteArray.size, Nat.reduceAdd, Nat.reduceLeDiff, Nat.reduceEqDiff, Nat.reduceMul, Int.reduceToNat, reduceIte, Int.reduceLE, Int.reduceNeg] <;> rfl, ?_⟩
    first | rfl | (simp only [exa, beq_self_eq_true, ByteArray.size, Nat.reduceAdd, Nat.reduceLeDiff, Nat.reduceEqDiff, Nat.reduceMul, Int.reduceToNat, reduceIte, Int.reduceLE, Int.reduceNeg, cZ, List.map_cons, List.map_nil]; done) | (simp only [exa, beq_self_eq_true, ByteArray.size, Nat.reduceAdd, Nat.reduceLeDiff, Nat.reduceEqDiff, Nat.reduceMul, Int.reduceToNat, reduceIte, Int.reduceLE, Int.reduceNeg, cZ, List.map_cons, List.map_nil]; rfl)
end V
end Go.Proofs.YtcldeoolglhdoaaDoor
end
section
namespace Go.Proofs.YtcldeoolglhdoaaDoor
namespace V
def cN (i : Nat) : List C := [.int .i64 (i : Int)]
end V
end Go.Proofs.YtcldeoolglhdoaaDoor
end
section
set_option linter.unusedVariables false
set_option linter.unusedSimpArgs false
namespace Go.Proofs.YtcldeoolglhdoaaDoor
namespace D18
open C17 G
open Classical in
noncomputable def cmB (code : List Ins) (R d j : Nat) : Bool := decide (Cm code R d j)
theorem cmB_iff {code : List Ins} {R d j : Nat} : cmB code R d j = true ↔ Cm code R d j := by simp [cmB]
structure BInv (code : List Ins) (R d : Nat) (ws : List Nat) (Q : Nat → Bool) : Prop where
  sq : ∀ j, Q j = true → Cm code R d j
  sw : ∀ j ∈ ws, Cm code R d j
  s0 : d < R → Q 0 = true ∨ 0 ∈ ws
  s1 : R ≤ d → ∀ k ∈ nxN code (d - R), Q k = true ∨ k ∈ ws
  cl : ∀ i, Q i = true → dfN code i ≠ rgD code R d → ∀ k ∈ nxN code i, Q k = true ∨ k ∈ ws
section
variable {code : List Ins} {R d : Nat} {ws : List Nat} {Q : Nat → Bool}
theorem mark_true {Q : Nat → Bool} {i j : Nat} : G.mark Q i j = true ↔ Q j = true ∨ j = i := by unfold G.mark; simp
theorem BInv.skip {i : Nat} (h : BInv code R d (i :: ws) Q) (hi : Q i = true) : BInv code R d ws Q := by
  have key : ∀ k, Q k = true ∨ k ∈ i :: ws → Q k = true ∨ k ∈ ws := fun k hk => by
    rcases hk with hk | hk
    · exact .inl hk
    · rcases List.mem_cons.1 hk with rfl | hk
      · exact .inl hi
      · exact .inr hk
  exact ⟨h.sq, fun j hj => h.sw j (List.mem_cons_of_mem _ hj), fun hd => key _ (h.s0 hd), fun hd k hk => key _ (h.s1 hd k hk), fun j hj hne k hk => key _ (h.cl j hj hne k hk)⟩
theorem BInv.go {i : Nat} (h : BInv code R d (i :: ws) Q) (hne : dfN code i ≠ rgD code R d) : BInv code R d (ws ++ nxN code i) (G.mark Q i) := by
  have hi : Cm code R d i := h.sw i (by simp)
  have key : ∀ k, Q k = true ∨ k ∈ i :: ws → G.mark Q i k = true ∨ k ∈ ws ++ nxN code i := fun k hk => by
    rcases hk with hk | hk
    · exact .inl (mark_true.2 (.inl hk))
    · rcases List.mem_cons.1 hk with rfl | hk
      · exact .inl (mark_true.2 (.inr rfl))
      · exact .inr (List.mem_append_left _ hk)
  refine ⟨fun j hj => ?_, fun j hj => ?_, fun hd => key _ (h.s0 hd), fun hd k hk => key _ (h.s1 hd k hk), fun j hj hn k hk => ?_⟩
  · rcases mark_true.1 hj with hj | rfl
    · exact h.sq j hj
    · exact hi
  · rcases List.mem_append.1 hj with hj | hj
    · exact h.sw j (List.mem_cons_of_mem _ hj)
    · exact .step hi hne hj
  · rcases mark_true.1 hj with hj | rfl
    · exact key _ (h.cl j hj hn k hk)
    · exact .inr (List.mem_append_right _ hk)
theorem BInv.stop {i : Nat} (h : BInv code R d (i :: ws) Q) (hne : dfN code i = rgD code R d) : BInv code R d ws (G.mark Q i) := by
  have hi : Cm code R d i := h.sw i (by simp)
  have key : ∀ k, Q k = true ∨ k ∈ i :: ws → G.mark Q i k = true ∨ k ∈ ws := fun k hk => by
    rcases hk with hk | hk
    · exact .inl (mark_true.2 (.inl hk))
    · rcases List.mem_cons.1 hk with rfl | hk
      · exact .inl (mark_true.2 (.inr rfl))
      · exact .inr hk
  refine ⟨fun j hj => ?_, fun j hj => h.sw j (List.mem_cons_of_mem _ hj), fun hd => key _ (h.s0 hd), fun hd k hk => key _ (h.s1 hd k hk), fun j hj hn k hk => ?_⟩
  · rcases mark_true.1 hj with hj | rfl
    · exact h.sq j hj
    · exact hi
  · rcases mark_true.1 hj with hj | rfl
    · exact key _ (h.cl j hj hn k hk)
    · exact absurd hne hn
theorem BInv.done (h : BInv code R d [] Q) : Q = cmB code R d := by
  funext j
  rw [Bool.eq_iff_iff, cmB_iff]
  refine ⟨h.sq j, fun hj => ?_⟩
  induction hj with
  | entry hd => exact (h.s0 hd).resolve_right (by simp)
  | next hd hk => exact (h.s1 hd _ hk).resolve_right (by simp)
  | step _ hn hk ih => exact (h.cl _ ih hn _ hk).resolve_right (by simp)
end
theorem ofI_place {code : List Ins} {R d r : Nat} (ok : okD code R = true) (h : rgD code R d = some r) : V.ofI code ((d : Int) - R) = r := by
  unfold V.ofI
  unfold rgD at h
  split at h
  · cases h
    rw [if_pos (by omega)]; omega
  · rename_i hd
    rw [if_neg (by omega), show ((d : Int) - R).toNat = d - R by omega]
    unfold dfN at h
    split at h
    · rename_i x hx
      rw [hx]
      split at h
      · rename_i hk
        cases h
        have := okD_df ok hx hk
        show dfI x = _
        unfold dfI
        rw [if_pos hk]; omega
      · cases h
    · cases h
theorem ofI_none {code : List Ins} {R d : Nat} (hd : d < R + code.length) (h : rgD code R d = none) : V.ofI code ((d : Int) - R) = -1 := by
  unfold V.ofI
  unfold rgD at h
  split at h
  · cases h
  · rename_i hd
    rw [if_neg (by omega), show ((d : Int) - R).toNat = d - R by omega]
    unfold dfN at h
    split at h
    · rename_i x hx
      rw [hx]
      split at h
      · cases h
      · rename_i hk
        show dfI x = _
        unfold dfI
        rw [if_neg hk]
    · rename_i hx
      rw [hx]
theorem dfI_some {code : List Ins} {z : Int} (ok : okD code z = true) {i : Nat} {x : Ins} (hx : code[i]? = some x) {r : Nat} : dfI x = r ↔ dfN code i = some r := by
  unfold dfN dfI
  rw [hx]
  show (if hasD x.kind = true then x.dst else -1) = (r : Int) ↔ (if hasD x.kind = true then some x.dst.toNat else none) = some r
  cases hk : hasD x.kind with
  | true =>
    have h0 := okD_df ok hx hk
    rw [if_pos rfl, if_pos rfl]
    show x.dst = (r : Int) ↔ some x.dst.toNat = some r
    constructor
    · intro h; rw [h]; simp
    · intro h; have := Option.some.inj h; omega
  | false =>
    rw [if_neg (by simp), if_neg (by simp)]
    constructor
    · intro h; omega
    · intro h; exact absurd h (by simp)
theorem nx_cN {code : List Ins} {z : Int} (ok : okD code z = true) {i : Nat} (hi : i < code.length) : (nx code i).map V.cZ = (nxN code i).map V.cN := by
  unfold nxN
  rw [List.map_map]
  refine List.map_congr_left fun k hk => ?_
  have := okD_nx ok hi hk
  show [V.C.int .i64 k] = [V.C.int .i64 ((k.toNat : Nat) : Int)]
  rw [Int.toNat_of_nonneg this.1]
end D18
namespace V
open Go.RowKit G C17 D18
def rowB (n : Nat) (R : Nat → Bool) : List (List C) := (List.range n).map fun i => [.bool (R i)]
theorem rowB_len (n : Nat) (R : Nat → Bool) : (rowB n R).length = n := by simp [rowB]
theorem rowB_at {n k : Nat} {R : Nat → Bool} (h : k < n) : (rowB n R)[k]? = some [.bool (R k)] := by simp [rowB, h]
theorem rowB_set {n k : Nat} {R : Nat → Bool} : (rowB n R).set k [.bool true] = rowB n (G.mark R k) := by
  refine List.ext_getElem? fun i => ?_
  rw [List.getElem?_set, rowB_len]
  by_cases hi : i < n
  · rw [rowB_at hi, rowB_at hi]
    by_cases e : k = i
    · subst e; rw [if_pos rfl, if_pos hi]; simp [G.mark]
    · rw [if_neg e]; simp [G.mark, Ne.symm e]
  · have h1 : (rowB n R)[i]? = none := by rw [List.getElem?_eq_none]; rw [rowB_len]; omega
    have h2 : (rowB n (G.mark R k))[i]? = none := by rw [List.getElem?_eq_none]; rw [rowB_len]; omega
    rw [h1, h2]
    split
    · rw [if_neg (by omega)]
    · rfl
theorem rep_rowB (n : Nat) : List.replicate n [C.bool false] = rowB n (fun _ => false) := by
  refine List.ext_getElem? fun i => ?_
  by_cases hi : i < n
  · rw [rowB_at hi]; simp [hi]
  · rw [List.getElem?_eq_none (by simpa using hi), List.getElem?_eq_none (by rw [rowB_len]; omega)]
end V
end Go.Proofs.YtcldeoolglhdoaaDoor
end
section
set_option linter.unusedVariables false
set_option linter.unusedSimpArgs false
namespace Go.Proofs.YtcldeoolglhdoaaDoor
namespace V
open Go.RowKit G C17 D18
set_option maxHeartbeats 8000000 in
theorem comes_ok (p : Prc) (rg : Nat) (hR : p.regs = rg) (hok : okD p.code rg = true) (d r : Nat) (hd : rgD p.code rg d = some r) (m : Mem) : COk Tryd.prog 29 [.agg (cP p), .c (.int .i64 ((d : Int) - rg))] m (.c (.sl (rowB p.code.length (cmB p.code rg d)))) := by
  have hl := okD_len hok
  have hlt := rgD_lt hok hd
  have hwf : (Lit.int .i64 ((d : Int) - rg)).wf = true := by rw [lit_wf]; simp [IntKind.min, IntKind.max, IntKind.bits, IntKind.signed]; omega
  have hof := fun m => refOf_ok p ((d : Int) - rg) hwf m
  have hnx := fun i (hi : i ≤ p.code.length) m => refNext_ok p i (by omega) hi m
  have hnE := fun i (hi : i < p.code.length) M q hM => refNextE_ok p i (by omega) hi M q hM
  have hpl : ∀ Q, pot (nxN p.code) Q p.code.length ≤ 4000 := fun Q => by
    have := pot_le (nxN p.code) Q 2 (fun i => by unfold nxN; rw [List.length_map]; exact nx_len _ _) p.code.length
    omega
  obtain ⟨cls, name, params, regs, code⟩ := p
  simp only at hR hok hd hl hlt hof hnx hnE hpl ⊢
  subst hR
  rw [ofI_place hok hd] at hof
  have hnxc := fun i (hi : i < code.length) => nx_cN (code := code) hok hi
  have hcp : cP ⟨cls, name, params, rg, code⟩ = [.str cls, .str name, .int .i64 params, .int .i64 rg, .sl (code.map cIns)] := rfl
  have hm1 : code.length * 1 ≤ 140737488355328 := by omega
  have hm1' : code.length ≤ 140737488355328 := by omega
  have hm2 : ((code.length : Nat) : Int) ≤ 9223372036854775807 := by omega
  have hn0 : (0 : Int) ≤ ((code.length : Nat) : Int) := by omega
  refine (ok_pure tab_ok Tryd.func29 (by kernel_rfl) rfl rfl (by rfl) (by rfl) (by rfl) (fun R hkeep => ?_) m)
  (repeat (first | refine W.seq ?_ | refine W.block ?_ | refine W.skip ?_ | refine W.exit ?_))
  refine W.region tab_ok 0 (by decide) (exec_run (by simp only [exa, beq_self_eq_true, ByteArray.size, Nat.reduceAdd, Nat.reduceLeDiff, Nat.reduceEqDiff, Nat.reduceMul, Int.reduceToNat, reduceIte, Int.reduceLE, Int.reduceNeg, hcp, List.map_cons, List.map_nil]; rfl)) ?_
  (repeat (first | refine W.seq ?_ | refine W.block ?_ | refine W.skip ?_ | refine W.exit ?_))
  refine W.regionK tab_ok 0 (by decide) ?_
  refine runk_split 2 (by simp only [exa, beq_self_eq_true, ByteArray.size, Nat.reduceAdd, Nat.reduceLeDiff, Nat.reduceEqDiff, Nat.reduceMul, Int.reduceToNat, reduceIte, Int.reduceLE, Int.reduceNeg, hcp, List.map_cons, List.map_nil]; rfl) ?_
  refine runk_call rfl rfl rfl rfl rfl (by simp) (cvs_cons cv_refl (cvs_cons cv_refl cvs_nil)) (hof _) ?_
  refine runk_exec (by simp only [exa, beq_self_eq_true, ByteArray.size, Nat.reduceAdd, Nat.reduceLeDiff, Nat.reduceEqDiff, Nat.reduceMul, Int.reduceToNat, reduceIte, Int.reduceLE, Int.reduceNeg]; rfl) ?_
  (repeat (first | refine W.seq ?_ | refine W.block ?_ | refine W.skip ?_ | refine W.exit ?_))
  refine W.region tab_ok 0 (by decide) (exec_run (by simp only [exa, beq_self_eq_true, ByteArray.size, Nat.reduceAdd, Nat.reduceLeDiff, Nat.reduceEqDiff, Nat.reduceMul, Int.reduceToNat, reduceIte, Int.reduceLE, Int.reduceNeg, List.length_map, Int.toNat_natCast, hm1, hm1', hm2, hn0, and_self, Bool.false_eq_true, rep_rowB, Nat.mul_one]; rfl)) ?_
  (repeat (first | refine W.seq ?_ | refine W.block ?_ | refine W.skip ?_ | refine W.exit ?_))
  refine W.region L.tab_ok 0 (by decide) (exec_run (by simp only [exa, beq_self_eq_true, ByteArray.size, Nat.reduceAdd, Nat.reduceLeDiff, Nat.reduceEqDiff, Nat.reduceMul, Int.reduceToNat, reduceIte, Int.reduceLE, Int.reduceNeg, L.tabs]; rfl)) ?_
  by_cases hdR : d < rg
  · have hq := eq_false (show ¬ (0 : Int) ≤ (d : Int) - rg by omega)
    (repeat (first | refine W.seq ?_ | refine W.block ?_ | refine W.skip ?_ | refine W.exit ?_))
    refine W.region tab_ok 0 (by decide) (exec_run (by simp only [exa, beq_self_eq_true, ByteArray.size, Nat.reduceAdd, Nat.reduceLeDiff, Nat.reduceEqDiff, Nat.reduceMul, Int.reduceToNat, reduceIte, Int.reduceLE, Int.reduceNeg, hq, decide_false]; rfl)) ?_
    refine W.cond rfl (fun h => absurd h (by simp)) (fun _ => ?_)
    have hne : True = True := rfl
    (repeat (first | refine W.seq ?_ | refine W.block ?_ | refine W.skip ?_ | refine W.exit ?_))
    refine W.loop (ι := List Nat × (Nat → Bool)) (fun x => ⟨upd (upd (upd (upd (fun _ => .top) 2 (.ptr 2 0)) 5 (.c (.int .i64 r))) 6 (.own 15)) 7 (.own 16), upd (upd (upd Mem.nil 2 (some (.box 24 [.c (.str cls), .c (.str name), .c (.int .i64 params), .c (.int .i64 rg), .c (.sl (code.map cIns))]))) 15 (some (.mrow 4 1 (rowB code.length x.2)))) 16 (some (.mrow 3 1 (x.1.map cN)))⟩) (fun x => BInv code rg d x.1 x.2 ∧ (∀ j ∈ x.1, j < code.length) ∧ pot (nxN code) x.2 code.length + x.1.length ≤ 100000) (fun x => pot (nxN code) x.2 code.length + x.1.length) ([0], fun _ => false) ?start1 ⟨⟨fun j hj => absurd hj (by simp), fun j hj => by simp at hj; subst hj; exact .entry hdR, fun _ => .inr (by simp), fun h => absurd h (by omega), fun i hi => absurd hi (by simp)⟩, fun j hj => by simp at hj; omega, by have := hpl (fun _ => false); simp only [List.length_cons, List.length_nil]; omega⟩ ?round1
    case start1 =>
      refine le_mk ?sle ?mle ?swf ?mwf (kept_not hkeep) (by rfl)
      case swf => repeat (first | exact swf_top _ | refine swf_upd ?_ (by simp [A.ids, upd_app, hne, List.map_cons, List.map_nil, cN, Int.cast_ofNat_Int]))
      case mwf => repeat (first | exact mwf_nil _ | refine mwf_upd ?_ (by simp [A.ids, O.ids, upd_app, hne, List.map_cons, List.map_nil, cN, Int.cast_ofNat_Int]))
      case mle => repeat (first | exact mle_nil _ | exact mle_refl _ | refine mle_upd ?_ (by first | rfl | (simp only [upd_app, killM_app, O.kill, A.kill, Nat.reduceEqDiff, reduceIte, Option.map_some, Option.map_none, List.map_cons, List.map_nil, hne, List.map_cons, List.map_nil, cN, Int.cast_ofNat_Int]; done)))
      case sle => repeat (first | exact sle_top _ | exact sle_refl _ | refine sle_upd ?_ (by first | rfl | (simp only [upd_app, killS_app, A.kill, entry_zero, entry_succ, Nat.reduceEqDiff, reduceIte, hne, List.map_cons, List.map_nil, cN, Int.cast_ofNat_Int]; done)))
    case round1 =>
      rintro ⟨ws, Q⟩ ⟨hinv, hlts, hbd⟩
      simp only at hinv hlts hbd
      cases ws with
      | nil =>
        repeat (first | refine W.seq ?_ | refine W.block ?_ | refine W.skip ?_ | refine W.exit ?_ | refine W.region tab_ok 0 (by decide) (exec_run (by simp only [exa, beq_self_eq_true, ByteArray.size, Nat.reduceAdd, Nat.reduceLeDiff, Nat.reduceEqDiff, Nat.reduceMul, Int.reduceToNat, reduceIte, Int.reduceLE, Int.reduceNeg]; rfl)) ?_)
        refine W.cond rfl ?_ ?_
        · intro h; simp at h
        · intro _
          repeat (first | refine W.seq ?_ | refine W.block ?_ | refine W.skip ?_ | refine W.exit ?_ | refine W.region tab_ok 0 (by decide) (exec_run (by simp only [exa, beq_self_eq_true, ByteArray.size, Nat.reduceAdd, Nat.reduceLeDiff, Nat.reduceEqDiff, Nat.reduceMul, Int.reduceToNat, reduceIte, Int.reduceLE, Int.reduceNeg]; rfl)) ?_)
          refine W.freeze 4 15 rfl (by simp only [exa, beq_self_eq_true, ByteArray.size, Nat.reduceAdd, Nat.reduceLeDiff, Nat.reduceEqDiff, Nat.reduceMul, Int.reduceToNat, reduceIte, Int.reduceLE, Int.reduceNeg]; rfl) (nokeep hkeep) ?_
          refine W.ret ⟨.inr rfl, by rfl, ?_⟩
          simp only [Tryd.f29, resA, resOne, toT, fin, exa, beq_self_eq_true, ByteArray.size, Nat.reduceAdd, Nat.reduceLeDiff, Nat.reduceEqDiff, Nat.reduceMul, Int.reduceToNat, reduceIte, Int.reduceLE, Int.reduceNeg]
          rw [hinv.done]
      | cons i ws =>
        have hi : i < code.length := hlts i (by simp)
        have hi0 : (0 : Int) ≤ (i : Int) := by omega
        have hpos := eq_true (show (0 : Int) < ((ws.length + 1 : Nat) : Int) by omega)
        have hws : ws.length + 1 ≤ 100000 := by simp only [List.length_cons] at hbd; omega
        have h1w : 1 ≤ ws.length + 1 := by omega
        obtain ⟨x, hx⟩ : ∃ x, code[i]? = some x := ⟨_, List.getElem?_eq_getElem hi⟩
        have hxc : cIns x = [.int .i64 x.kind, .int .i64 x.dst, .int .i64 x.a, .int .i64 x.b, .int .i64 x.c, .int .i64 x.tt, .int .i64 x.els, .int .i64 x.num, .str x.name, .sl (x.args.map fun z => [C.int .i64 z])] := rfl
        have hdf := fun m => refDef_ok x m
        have hnxi := hnx i (by omega)
        rw [hxc] at hdf
        repeat (first | refine W.seq ?_ | refine W.block ?_ | refine W.skip ?_ | refine W.exit ?_ | refine W.region tab_ok 0 (by decide) (exec_run (by simp only [exa, beq_self_eq_true, ByteArray.size, Nat.reduceAdd, Nat.reduceLeDiff, Nat.reduceEqDiff, Nat.reduceMul, Int.reduceToNat, reduceIte, Int.reduceLE, Int.reduceNeg, List.length_map, List.length_cons, hpos, decide_true]; rfl)) ?_)
        refine W.cond rfl (fun _ => ?_) (fun h => absurd h (by simp))
        (repeat (first | refine W.seq ?_ | refine W.block ?_ | refine W.skip ?_ | refine W.exit ?_))
        refine W.region tab_ok 0 (by decide) (exec_run (by simp only [exa, beq_self_eq_true, ByteArray.size, Nat.reduceAdd, Nat.reduceLeDiff, Nat.reduceEqDiff, Nat.reduceMul, Int.reduceToNat, reduceIte, Int.reduceLE, Int.reduceNeg, List.length_map, List.length_cons, List.map_cons, cN]; rfl)) ?_
        (repeat (first | refine W.seq ?_ | refine W.block ?_ | refine W.skip ?_ | refine W.exit ?_))
        refine W.region tab_ok 0 (by decide) (exec_run (by simp only [exa, beq_self_eq_true, ByteArray.size, Nat.reduceAdd, Nat.reduceLeDiff, Nat.reduceEqDiff, Nat.reduceMul, Int.reduceToNat, reduceIte, Int.reduceLE, Int.reduceNeg, List.length_map, List.length_cons, List.map_cons, cN, h1w, Nat.le_refl, and_self, Nat.zero_le]; rfl)) ?_
        refine W.rewin 7 16 (by decide) rfl (by simp only [exa, beq_self_eq_true, ByteArray.size, Nat.reduceAdd, Nat.reduceLeDiff, Nat.reduceEqDiff, Nat.reduceMul, Int.reduceToNat, reduceIte, Int.reduceLE, Int.reduceNeg]; rfl) (by simp only [List.length_map, List.length_append, List.length_cons, List.length_nil]; omega) (nokeep hkeep) ?_
        (repeat (first | refine W.seq ?_ | refine W.block ?_ | refine W.skip ?_ | refine W.exit ?_))
        refine W.region tab_ok 0 (by decide) (exec_run (by simp only [exa, beq_self_eq_true, ByteArray.size, Nat.reduceAdd, Nat.reduceLeDiff, Nat.reduceEqDiff, Nat.reduceMul, Int.reduceToNat, reduceIte, Int.reduceLE, Int.reduceNeg, rowB_at hi, rowB_len, hi, hi0, Int.toNat_natCast, and_self]; rfl)) ?_
        have hrows : List.take ws.length (List.map cN ws) = List.map cN ws := List.take_of_length_le (by simp)
        refine W.cond rfl ?_ ?_
        · intro hq
          have hq : Q i = true := by simpa using hq
          repeat (first | refine W.seq ?_ | refine W.block ?_ | refine W.skip ?_ | refine W.exit ?_ | refine W.region tab_ok 0 (by decide) (exec_run (by simp only [exa, beq_self_eq_true, ByteArray.size, Nat.reduceAdd, Nat.reduceLeDiff, Nat.reduceEqDiff, Nat.reduceMul, Int.reduceToNat, reduceIte, Int.reduceLE, Int.reduceNeg]; rfl)) ?_)
          refine ⟨(ws, Q), ⟨hinv.skip hq, fun j hj => hlts j (List.mem_cons_of_mem _ hj), by simp only [List.length_cons] at hbd ⊢; omega⟩, by simp only [List.length_cons]; omega, ?_⟩
          refine le_mk ?sle ?mle ?swf ?mwf (kept_not hkeep) (by rfl)
          case swf => repeat (first | exact swf_top _ | refine swf_upd ?_ (by simp [A.ids, upd_app, hrows, List.length_map, List.drop_succ_cons, List.drop_zero]))
          case mwf => repeat (first | exact mwf_nil _ | refine mwf_upd ?_ (by simp [A.ids, O.ids, upd_app, hrows, List.length_map, List.drop_succ_cons, List.drop_zero]))
          case mle => repeat (first | exact mle_nil _ | exact mle_refl _ | refine mle_upd ?_ (by first | rfl | (simp only [upd_app, killM_app, O.kill, A.kill, Nat.reduceEqDiff, reduceIte, Option.map_some, Option.map_none, List.map_cons, List.map_nil, hrows, List.length_map, List.drop_succ_cons, List.drop_zero]; done)))
          case sle => repeat (first | exact sle_top _ | exact sle_refl _ | refine sle_upd ?_ (by first | rfl | (simp only [upd_app, killS_app, A.kill, entry_zero, entry_succ, Nat.reduceEqDiff, reduceIte, hrows, List.length_map, List.drop_succ_cons, List.drop_zero]; done)))
        · intro hq
          have hq : Q i = false := by simpa using hq
          have hpm := pot_mark (nxN code) Q i hq code.length
          rw [if_pos hi] at hpm
          (repeat (first | refine W.seq ?_ | refine W.block ?_ | refine W.skip ?_ | refine W.exit ?_))
          refine W.region tab_ok 0 (by decide) (exec_run (by simp only [exa, beq_self_eq_true, ByteArray.size, Nat.reduceAdd, Nat.reduceLeDiff, Nat.reduceEqDiff, Nat.reduceMul, Int.reduceToNat, reduceIte, Int.reduceLE, Int.reduceNeg, rowB_at hi, rowB_len, hi, hi0, Int.toNat_natCast, and_self, rowB_set]; rfl)) ?_
          (repeat (first | refine W.seq ?_ | refine W.block ?_ | refine W.skip ?_ | refine W.exit ?_))
          refine W.regionK tab_ok 0 (by decide) ?_
          refine runk_split 5 (by simp only [exa, beq_self_eq_true, ByteArray.size, Nat.reduceAdd, Nat.reduceLeDiff, Nat.reduceEqDiff, Nat.reduceMul, Int.reduceToNat, reduceIte, Int.reduceLE, Int.reduceNeg, at_map hx, hxc, hi0, List.length_map, Int.toNat_natCast]; rfl) ?_
          refine runk_call rfl rfl rfl rfl rfl (by simp) (cvs_cons cv_refl cvs_nil) (hdf _) ?_
          have hdn := dfI_some (z := rg) hok hx (r := r)
          by_cases hne : dfI x = r
          · have he := eq_true hne
            refine runk_exec (by simp only [exa, beq_self_eq_true, ByteArray.size, Nat.reduceAdd, Nat.reduceLeDiff, Nat.reduceEqDiff, Nat.reduceMul, Int.reduceToNat, reduceIte, Int.reduceLE, Int.reduceNeg, he, decide_true, Bool.not_true, not_true_eq_false, decide_false]; rfl) ?_
            refine W.cond rfl (fun h => absurd h (by simp)) (fun _ => ?_)
            repeat (first | refine W.seq ?_ | refine W.block ?_ | refine W.skip ?_ | refine W.exit ?_ | refine W.region tab_ok 0 (by decide) (exec_run (by simp only [exa, beq_self_eq_true, ByteArray.size, Nat.reduceAdd, Nat.reduceLeDiff, Nat.reduceEqDiff, Nat.reduceMul, Int.reduceToNat, reduceIte, Int.reduceLE, Int.reduceNeg]; rfl)) ?_)
            refine ⟨(ws, G.mark Q i), ⟨hinv.stop ((hdn.1 hne).trans hd.symm), fun j hj => hlts j (List.mem_cons_of_mem _ hj), by simp only [List.length_cons] at hbd ⊢; omega⟩, by simp only [List.length_cons]; omega, ?_⟩
            refine le_mk ?sle ?mle ?swf ?mwf (kept_not hkeep) (by rfl)
            case swf => repeat (first | exact swf_top _ | refine swf_upd ?_ (by simp [A.ids, upd_app, hrows, List.length_map, List.drop_succ_cons, List.drop_zero]))
            case mwf => repeat (first | exact mwf_nil _ | refine mwf_upd ?_ (by simp [A.ids, O.ids, upd_app, hrows, List.length_map, List.drop_succ_cons, List.drop_zero]))
            case mle => repeat (first | exact mle_nil _ | exact mle_refl _ | refine mle_upd ?_ (by first | rfl | (simp only [upd_app, killM_app, O.kill, A.kill, Nat.reduceEqDiff, reduceIte, Option.map_some, Option.map_none, List.map_cons, List.map_nil, hrows, List.length_map, List.drop_succ_cons, List.drop_zero]; done)))
            case sle => repeat (first | exact sle_top _ | exact sle_refl _ | refine sle_upd ?_ (by first | rfl | (simp only [upd_app, killS_app, A.kill, entry_zero, entry_succ, Nat.reduceEqDiff, reduceIte, hrows, List.length_map, List.drop_succ_cons, List.drop_zero]; done)))
          · have he := eq_false hne
            refine runk_exec (by simp only [exa, beq_self_eq_true, ByteArray.size, Nat.reduceAdd, Nat.reduceLeDiff, Nat.reduceEqDiff, Nat.reduceMul, Int.reduceToNat, reduceIte, Int.reduceLE, Int.reduceNeg, he, decide_false, Bool.not_false, not_false_eq_true, decide_true]; rfl) ?_
            refine W.cond rfl (fun _ => ?_) (fun h => absurd h (by simp))
            (repeat (first | refine W.seq ?_ | refine W.block ?_ | refine W.skip ?_ | refine W.exit ?_))
            refine W.regionK tab_ok 0 (by decide) ?_
            refine runk_split 3 (by simp only [exa, beq_self_eq_true, ByteArray.size, Nat.reduceAdd, Nat.reduceLeDiff, Nat.reduceEqDiff, Nat.reduceMul, Int.reduceToNat, reduceIte, Int.reduceLE, Int.reduceNeg, hcp, List.map_cons, List.map_nil]; rfl) ?_
            refine runk_call rfl rfl rfl rfl rfl (by simp) (cvs_cons cv_refl (cvs_cons cv_refl cvs_nil)) (hnxi _) ?_
            refine runk_split 0 (by simp only [exa, beq_self_eq_true, ByteArray.size, Nat.reduceAdd, Nat.reduceLeDiff, Nat.reduceEqDiff, Nat.reduceMul, Int.reduceToNat, reduceIte, Int.reduceLE, Int.reduceNeg]; rfl) ?_
            refine runk_appendM tab_ok 16 rfl rfl rfl rfl rfl rfl (by simp only [exa, beq_self_eq_true, ByteArray.size, Nat.reduceAdd, Nat.reduceLeDiff, Nat.reduceEqDiff, Nat.reduceMul, Int.reduceToNat, reduceIte, Int.reduceLE, Int.reduceNeg]) (by simp only [exa, beq_self_eq_true, ByteArray.size, Nat.reduceAdd, Nat.reduceLeDiff, Nat.reduceEqDiff, Nat.reduceMul, Int.reduceToNat, reduceIte, Int.reduceLE, Int.reduceNeg]; rfl) (by first | rfl | (simp only [exa, beq_self_eq_true, ByteArray.size, Nat.reduceAdd, Nat.reduceLeDiff, Nat.reduceEqDiff, Nat.reduceMul, Int.reduceToNat, reduceIte, Int.reduceLE, Int.reduceNeg]; rfl)) rfl rfl rfl rfl (nokeep hkeep) (fun z hz => by obtain ⟨y, -, rfl⟩ := List.mem_map.1 hz; rfl) (by have := nx_len code i; simp only [List.length_map, List.length_append, List.length_cons, List.length_nil, List.length_take, List.length_drop]; omega) (by decide) ?_
            refine runk_exec (by simp only [exa, beq_self_eq_true, ByteArray.size, Nat.reduceAdd, Nat.reduceLeDiff, Nat.reduceEqDiff, Nat.reduceMul, Int.reduceToNat, reduceIte, Int.reduceLE, Int.reduceNeg]; rfl) ?_
            have hnn : dfN code i ≠ rgD code rg d := fun e => hne (hdn.2 (e.trans hd))
            refine ⟨(ws ++ nxN code i, G.mark Q i), ⟨hinv.go hnn, fun j hj => (List.mem_append.1 hj).elim (fun h => hlts j (List.mem_cons_of_mem _ h)) (fun h => nxN_lt hok hi h), by simp only [List.length_cons, List.length_append] at hbd ⊢; omega⟩, by simp only [List.length_cons, List.length_append]; omega, ?_⟩
            have hnc := hnxc i hi
            refine le_mk ?sle ?mle ?swf ?mwf (kept_not hkeep) (by rfl)
            case swf => repeat (first | exact swf_top _ | refine swf_upd ?_ (by simp [A.ids, upd_app, hrows, hnc, List.map_append, List.length_map, List.drop_succ_cons, List.drop_zero]))
            case mwf => repeat (first | exact mwf_nil _ | refine mwf_upd ?_ (by simp [A.ids, O.ids, upd_app, hrows, hnc, List.map_append, List.length_map, List.drop_succ_cons, List.drop_zero]))
            case mle => repeat (first | exact mle_nil _ | exact mle_refl _ | refine mle_upd ?_ (by first | rfl | (simp only [upd_app, killM_app, O.kill, A.kill, Nat.reduceEqDiff, reduceIte, Option.map_some, Option.map_none, List.map_cons, List.map_nil, hrows, hnc, List.map_append, List.length_map, List.drop_succ_cons, List.drop_zero]; done)))
            case sle => repeat (first | exact sle_top _ | exact sle_refl _ | refine sle_upd ?_ (by first | rfl | (simp only [upd_app, killS_app, A.kill, entry_zero, entry_succ, Nat.reduceEqDiff, reduceIte, hrows, hnc, List.map_append, List.length_map, List.drop_succ_cons, List.drop_zero]; done)))
  · have hq := eq_true (show (0 : Int) ≤ (d : Int) - rg by omega)
    obtain ⟨i0, hi0⟩ : ∃ i0, d = rg + i0 := ⟨d - rg, by omega⟩
    have hii : i0 < code.length := by omega
    have hdi : (d : Int) - rg = (i0 : Int) := by omega
    (repeat (first | refine W.seq ?_ | refine W.block ?_ | refine W.skip ?_ | refine W.exit ?_))
    refine W.region tab_ok 0 (by decide) (exec_run (by simp only [exa, beq_self_eq_true, ByteArray.size, Nat.reduceAdd, Nat.reduceLeDiff, Nat.reduceEqDiff, Nat.reduceMul, Int.reduceToNat, reduceIte, Int.reduceLE, Int.reduceNeg, hq, decide_true]; rfl)) ?_
    refine W.cond rfl (fun _ => ?_) (fun h => absurd h (by simp))
    refine W.weaken (st' := ⟨upd (upd (upd (upd (fun _ => .top) 1 (.c (.int .i64 ((d : Int) - rg)))) 2 (.ptr 2 0)) 5 (.c (.int .i64 r))) 6 (.own 15), upd (upd Mem.nil 2 (some (.box 24 [.c (.str cls), .c (.str name), .c (.int .i64 params), .c (.int .i64 rg), .c (.sl (code.map cIns))]))) 15 (some (.mrow 4 1 (rowB code.length fun _ => false)))⟩) ?le ?_
    case le =>
      refine le_mk ?sle ?mle ?swf ?mwf (kept_not hkeep) (by rfl)
      case swf => repeat (first | exact swf_top _ | refine swf_upd ?_ (by simp [A.ids, upd_app]))
      case mwf => repeat (first | exact mwf_nil _ | refine mwf_upd ?_ (by simp [A.ids, O.ids, upd_app]))
      case mle => repeat (first | exact mle_nil _ | exact mle_refl _ | refine mle_upd ?_ (by first | rfl | (simp only [upd_app, killM_app, O.kill, A.kill, Nat.reduceEqDiff, reduceIte, Option.map_some, Option.map_none, List.map_cons, List.map_nil]; done)))
      case sle => repeat (first | exact sle_top _ | exact sle_refl _ | refine sle_upd ?_ (by first | rfl | (simp only [upd_app, killS_app, A.kill, entry_zero, entry_succ, Nat.reduceEqDiff, reduceIte]; done)))
    rw [hdi]
    (repeat (first | refine W.seq ?_ | refine W.block ?_ | refine W.skip ?_ | refine W.exit ?_))
    refine W.regionK tab_ok 0 (by decide) ?_
    refine runk_split 2 (by simp only [exa, beq_self_eq_true, ByteArray.size, Nat.reduceAdd, Nat.reduceLeDiff, Nat.reduceEqDiff, Nat.reduceMul, Int.reduceToNat, reduceIte, Int.reduceLE, Int.reduceNeg, hcp, List.map_cons, List.map_nil]; rfl) ?_
    refine runk_callE (D := []) rfl rfl rfl rfl rfl (fun j hj => by simp at hj) (by simp) (cvs_cons cv_refl (cvs_cons cv_refl cvs_nil)) (hnE i0 hii _ 16 rfl) ?_
    simp only [killL, putS, upd_upd]
    refine runk_exec (by simp only [exa, beq_self_eq_true, ByteArray.size, Nat.reduceAdd, Nat.reduceLeDiff, Nat.reduceEqDiff, Nat.reduceMul, Int.reduceToNat, reduceIte, Int.reduceLE, Int.reduceNeg]; rfl) ?_
    have hne := hnxc i0 hii
    (repeat (first | refine W.seq ?_ | refine W.block ?_ | refine W.skip ?_ | refine W.exit ?_))
    refine W.loop (ι := List Nat × (Nat → Bool)) (fun x => ⟨upd (upd (upd (upd (fun _ => .top) 2 (.ptr 2 0)) 5 (.c (.int .i64 r))) 6 (.own 15)) 7 (.own 16), upd (upd (upd Mem.nil 2 (some (.box 24 [.c (.str cls), .c (.str name), .c (.int .i64 params), .c (.int .i64 rg), .c (.sl (code.map cIns))]))) 15 (some (.mrow 4 1 (rowB code.length x.2)))) 16 (some (.mrow 3 1 (x.1.map cN)))⟩) (fun x => BInv code rg d x.1 x.2 ∧ (∀ j ∈ x.1, j < code.length) ∧ pot (nxN code) x.2 code.length + x.1.length ≤ 100000) (fun x => pot (nxN code) x.2 code.length + x.1.length) (nxN code i0, fun _ => false) ?start2 ⟨⟨fun j hj => absurd hj (by simp), fun j hj => .next (by omega) (by rw [show d - rg = i0 by omega]; exact hj), fun h => absurd h hdR, fun _ k hk => .inr (by rw [show d - rg = i0 by omega] at hk; exact hk), fun i hi => absurd hi (by simp)⟩, fun j hj => nxN_lt hok hii hj, by have := hpl (fun _ => false); have : (nxN code i0).length ≤ 2 := (by unfold nxN; rw [List.length_map]; exact nx_len _ _); simp only; omega⟩ ?round2
    case start2 =>
      refine le_mk ?sle ?mle ?swf ?mwf (kept_not hkeep) (by rfl)
      case swf => repeat (first | exact swf_top _ | refine swf_upd ?_ (by simp [A.ids, upd_app, hne, List.map_cons, List.map_nil, cN, Int.cast_ofNat_Int]))
      case mwf => repeat (first | exact mwf_nil _ | refine mwf_upd ?_ (by simp [A.ids, O.ids, upd_app, hne, List.map_cons, List.map_nil, cN, Int.cast_ofNat_Int]))
      case mle => repeat (first | exact mle_nil _ | exact mle_refl _ | refine mle_upd ?_ (by first | rfl | (simp only [upd_app, killM_app, O.kill, A.kill, Nat.reduceEqDiff, reduceIte, Option.map_some, Option.map_none, List.map_cons, List.map_nil, hne, List.map_cons, List.map_nil, cN, Int.cast_ofNat_Int]; done)))
      case sle => repeat (first | exact sle_top _ | exact sle_refl _ | refine sle_upd ?_ (by first | rfl | (simp only [upd_app, killS_app, A.kill, entry_zero, entry_succ, Nat.reduceEqDiff, reduceIte, hne, List.map_cons, List.map_nil, cN, Int.cast_ofNat_Int]; done)))
    case round2 =>
      rintro ⟨ws, Q⟩ ⟨hinv, hlts, hbd⟩
      simp only at hinv hlts hbd
      cases ws with
      | nil =>
        repeat (first | refine W.seq ?_ | refine W.block ?_ | refine W.skip ?_ | refine W.exit ?_ | refine W.region tab_ok 0 (by decide) (exec_run (by simp only [exa, beq_self_eq_true, ByteArray.size, Nat.reduceAdd, Nat.reduceLeDiff, Nat.reduceEqDiff, Nat.reduceMul, Int.reduceToNat, reduceIte, Int.reduceLE, Int.reduceNeg]; rfl)) ?_)
        refine W.cond rfl ?_ ?_
        · intro h; simp at h
        · intro _
          repeat (first | refine W.seq ?_ | refine W.block ?_ | refine W.skip ?_ | refine W.exit ?_ | refine W.region tab_ok 0 (by decide) (exec_run (by simp only [exa, beq_self_eq_true, ByteArray.size, Nat.reduceAdd, Nat.reduceLeDiff, Nat.reduceEqDiff, Nat.reduceMul, Int.reduceToNat, reduceIte, Int.reduceLE, Int.reduceNeg]; rfl)) ?_)
          refine W.freeze 4 15 rfl (by simp only [exa, beq_self_eq_true, ByteArray.size, Nat.reduceAdd, Nat.reduceLeDiff, Nat.reduceEqDiff, Nat.reduceMul, Int.reduceToNat, reduceIte, Int.reduceLE, Int.reduceNeg]; rfl) (nokeep hkeep) ?_
          refine W.ret ⟨.inr rfl, by rfl, ?_⟩
          simp only [Tryd.f29, resA, resOne, toT, fin, exa, beq_self_eq_true, ByteArray.size, Nat.reduceAdd, Nat.reduceLeDiff, Nat.reduceEqDiff, Nat.reduceMul, Int.reduceToNat, reduceIte, Int.reduceLE, Int.reduceNeg]
          rw [hinv.done]
      | cons i ws =>
        have hi : i < code.length := hlts i (by simp)
        have hi0 : (0 : Int) ≤ (i : Int) := by omega
        have hpos := eq_true (show (0 : Int) < ((ws.length + 1 : Nat) : Int) by omega)
        have hws : ws.length + 1 ≤ 100000 := by simp only [List.length_cons] at hbd; omega
        have h1w : 1 ≤ ws.length + 1 := by omega
        obtain ⟨x, hx⟩ : ∃ x, code[i]? = some x := ⟨_, List.getElem?_eq_getElem hi⟩
        have hxc : cIns x = [.int .i64 x.kind, .int .i64 x.dst, .int .i64 x.a, .int .i64 x.b, .int .i64 x.c, .int .i64 x.tt, .int .i64 x.els, .int .i64 x.num, .str x.name, .sl (x.args.map fun z => [C.int .i64 z])] := rfl
        have hdf := fun m => refDef_ok x m
        have hnxi := hnx i (by omega)
        rw [hxc] at hdf
        repeat (first | refine W.seq ?_ | refine W.block ?_ | refine W.skip ?_ | refine W.exit ?_ | refine W.region tab_ok 0 (by decide) (exec_run (by simp only [exa, beq_self_eq_true, ByteArray.size, Nat.reduceAdd, Nat.reduceLeDiff, Nat.reduceEqDiff, Nat.reduceMul, Int.reduceToNat, reduceIte, Int.reduceLE, Int.reduceNeg, List.length_map, List.length_cons, hpos, decide_true]; rfl)) ?_)
        refine W.cond rfl (fun _ => ?_) (fun h => absurd h (by simp))
        (repeat (first | refine W.seq ?_ | refine W.block ?_ | refine W.skip ?_ | refine W.exit ?_))
        refine W.region tab_ok 0 (by decide) (exec_run (by simp only [exa, beq_self_eq_true, ByteArray.size, Nat.reduceAdd, Nat.reduceLeDiff, Nat.reduceEqDiff, Nat.reduceMul, Int.reduceToNat, reduceIte, Int.reduceLE, Int.reduceNeg, List.length_map, List.length_cons, List.map_cons, cN]; rfl)) ?_
        (repeat (first | refine W.seq ?_ | refine W.block ?_ | refine W.skip ?_ | refine W.exit ?_))
        refine W.region tab_ok 0 (by decide) (exec_run (by simp only [exa, beq_self_eq_true, ByteArray.size, Nat.reduceAdd, Nat.reduceLeDiff, Nat.reduceEqDiff, Nat.reduceMul, Int.reduceToNat, reduceIte, Int.reduceLE, Int.reduceNeg, List.length_map, List.length_cons, List.map_cons, cN, h1w, Nat.le_refl, and_self, Nat.zero_le]; rfl)) ?_
        refine W.rewin 7 16 (by decide) rfl (by simp only [exa, beq_self_eq_true, ByteArray.size, Nat.reduceAdd, Nat.reduceLeDiff, Nat.reduceEqDiff, Nat.reduceMul, Int.reduceToNat, reduceIte, Int.reduceLE, Int.reduceNeg]; rfl) (by simp only [List.length_map, List.length_append, List.length_cons, List.length_nil]; omega) (nokeep hkeep) ?_
        (repeat (first | refine W.seq ?_ | refine W.block ?_ | refine W.skip ?_ | refine W.exit ?_))
        refine W.region tab_ok 0 (by decide) (exec_run (by simp only [exa, beq_self_eq_true, ByteArray.size, Nat.reduceAdd, Nat.reduceLeDiff, Nat.reduceEqDiff, Nat.reduceMul, Int.reduceToNat, reduceIte, Int.reduceLE, Int.reduceNeg, rowB_at hi, rowB_len, hi, hi0, Int.toNat_natCast, and_self]; rfl)) ?_
        have hrows : List.take ws.length (List.map cN ws) = List.map cN ws := List.take_of_length_le (by simp)
        refine W.cond rfl ?_ ?_
        · intro hq
          have hq : Q i = true := by simpa using hq
          repeat (first | refine W.seq ?_ | refine W.block ?_ | refine W.skip ?_ | refine W.exit ?_ | refine W.region tab_ok 0 (by decide) (exec_run (by simp only [exa, beq_self_eq_true, ByteArray.size, Nat.reduceAdd, Nat.reduceLeDiff, Nat.reduceEqDiff, Nat.reduceMul, Int.reduceToNat, reduceIte, Int.reduceLE, Int.reduceNeg]; rfl)) ?_)
          refine ⟨(ws, Q), ⟨hinv.skip hq, fun j hj => hlts j (List.mem_cons_of_mem _ hj), by simp only [List.length_cons] at hbd ⊢; omega⟩, by simp only [List.length_cons]; omega, ?_⟩
          refine le_mk ?sle ?mle ?swf ?mwf (kept_not hkeep) (by rfl)
          case swf => repeat (first | exact swf_top _ | refine swf_upd ?_ (by simp [A.ids, upd_app, hrows, List.length_map, List.drop_succ_cons, List.drop_zero]))
          case mwf => repeat (first | exact mwf_nil _ | refine mwf_upd ?_ (by simp [A.ids, O.ids, upd_app, hrows, List.length_map, List.drop_succ_cons, List.drop_zero]))
          case mle => repeat (first | exact mle_nil _ | exact mle_refl _ | refine mle_upd ?_ (by first | rfl | (simp only [upd_app, killM_app, O.kill, A.kill, Nat.reduceEqDiff, reduceIte, Option.map_some, Option.map_none, List.map_cons, List.map_nil, hrows, List.length_map, List.drop_succ_cons, List.drop_zero]; done)))
          case sle => repeat (first | exact sle_top _ | exact sle_refl _ | refine sle_upd ?_ (by first | rfl | (simp only [upd_app, killS_app, A.kill, entry_zero, entry_succ, Nat.reduceEqDiff, reduceIte, hrows, List.length_map, List.drop_succ_cons, List.drop_zero]; done)))
        · intro hq
          have hq : Q i = false := by simpa using hq
          have hpm := pot_mark (nxN code) Q i hq code.length
          rw [if_pos hi] at hpm
          (repeat (first | refine W.seq ?_ | refine W.block ?_ | refine W.skip ?_ | refine W.exit ?_))
          refine W.region tab_ok 0 (by decide) (exec_run (by simp only [exa, beq_self_eq_true, ByteArray.size, Nat.reduceAdd, Nat.reduceLeDiff, Nat.reduceEqDiff, Nat.reduceMul, Int.reduceToNat, reduceIte, Int.reduceLE, Int.reduceNeg, rowB_at hi, rowB_len, hi, hi0, Int.toNat_natCast, and_self, rowB_set]; rfl)) ?_
          (repeat (first | refine W.seq ?_ | refine W.block ?_ | refine W.skip ?_ | refine W.exit ?_))
          refine W.regionK tab_ok 0 (by decide) ?_
          refine runk_split 5 (by simp only [exa, beq_self_eq_true, ByteArray.size, Nat.reduceAdd, Nat.reduceLeDiff, Nat.reduceEqDiff, Nat.reduceMul, Int.reduceToNat, reduceIte, Int.reduceLE, Int.reduceNeg, at_map hx, hxc, hi0, List.length_map, Int.toNat_natCast]; rfl) ?_
          refine runk_call rfl rfl rfl rfl rfl (by simp) (cvs_cons cv_refl cvs_nil) (hdf _) ?_
          have hdn := dfI_some (z := rg) hok hx (r := r)
          by_cases hne : dfI x = r
          · have he := eq_true hne
            refine runk_exec (by simp only [exa, beq_self_eq_true, ByteArray.size, Nat.reduceAdd, Nat.reduceLeDiff, Nat.reduceEqDiff, Nat.reduceMul, Int.reduceToNat, reduceIte, Int.reduceLE, Int.reduceNeg, he, decide_true, Bool.not_true, not_true_eq_false, decide_false]; rfl) ?_
            refine W.cond rfl (fun h => absurd h (by simp)) (fun _ => ?_)
            repeat (first | refine W.seq ?_ | refine W.block ?_ | refine W.skip ?_ | refine W.exit ?_ | refine W.region tab_ok 0 (by decide) (exec_run (by simp only [exa, beq_self_eq_true, ByteArray.size, Nat.reduceAdd, Nat.reduceLeDiff, Nat.reduceEqDiff, Nat.reduceMul, Int.reduceToNat, reduceIte, Int.reduceLE, Int.reduceNeg]; rfl)) ?_)
            refine ⟨(ws, G.mark Q i), ⟨hinv.stop ((hdn.1 hne).trans hd.symm), fun j hj => hlts j (List.mem_cons_of_mem _ hj), by simp only [List.length_cons] at hbd ⊢; omega⟩, by simp only [List.length_cons]; omega, ?_⟩
            refine le_mk ?sle ?mle ?swf ?mwf (kept_not hkeep) (by rfl)
            case swf => repeat (first | exact swf_top _ | refine swf_upd ?_ (by simp [A.ids, upd_app, hrows, List.length_map, List.drop_succ_cons, List.drop_zero]))
            case mwf => repeat (first | exact mwf_nil _ | refine mwf_upd ?_ (by simp [A.ids, O.ids, upd_app, hrows, List.length_map, List.drop_succ_cons, List.drop_zero]))
            case mle => repeat (first | exact mle_nil _ | exact mle_refl _ | refine mle_upd ?_ (by first | rfl | (simp only [upd_app, killM_app, O.kill, A.kill, Nat.reduceEqDiff, reduceIte, Option.map_some, Option.map_none, List.map_cons, List.map_nil, hrows, List.length_map, List.drop_succ_cons, List.drop_zero]; done)))
            case sle => repeat (first | exact sle_top _ | exact sle_refl _ | refine sle_upd ?_ (by first | rfl | (simp only [upd_app, killS_app, A.kill, entry_zero, entry_succ, Nat.reduceEqDiff, reduceIte, hrows, List.length_map, List.drop_succ_cons, List.drop_zero]; done)))
          · have he := eq_false hne
            refine runk_exec (by simp only [exa, beq_self_eq_true, ByteArray.size, Nat.reduceAdd, Nat.reduceLeDiff, Nat.reduceEqDiff, Nat.reduceMul, Int.reduceToNat, reduceIte, Int.reduceLE, Int.reduceNeg, he, decide_false, Bool.not_false, not_false_eq_true, decide_true]; rfl) ?_
            refine W.cond rfl (fun _ => ?_) (fun h => absurd h (by simp))
            (repeat (first | refine W.seq ?_ | refine W.block ?_ | refine W.skip ?_ | refine W.exit ?_))
            refine W.regionK tab_ok 0 (by decide) ?_
            refine runk_split 3 (by simp only [exa, beq_self_eq_true, ByteArray.size, Nat.reduceAdd, Nat.reduceLeDiff, Nat.reduceEqDiff, Nat.reduceMul, Int.reduceToNat, reduceIte, Int.reduceLE, Int.reduceNeg, hcp, List.map_cons, List.map_nil]; rfl) ?_
            refine runk_call rfl rfl rfl rfl rfl (by simp) (cvs_cons cv_refl (cvs_cons cv_refl cvs_nil)) (hnxi _) ?_
            refine runk_split 0 (by simp only [exa, beq_self_eq_true, ByteArray.size, Nat.reduceAdd, Nat.reduceLeDiff, Nat.reduceEqDiff, Nat.reduceMul, Int.reduceToNat, reduceIte, Int.reduceLE, Int.reduceNeg]; rfl) ?_
            refine runk_appendM tab_ok 16 rfl rfl rfl rfl rfl rfl (by simp only [exa, beq_self_eq_true, ByteArray.size, Nat.reduceAdd, Nat.reduceLeDiff, Nat.reduceEqDiff, Nat.reduceMul, Int.reduceToNat, reduceIte, Int.reduceLE, Int.reduceNeg]) (by simp only [exa, beq_self_eq_true, ByteArray.size, Nat.reduceAdd, Nat.reduceLeDiff, Nat.reduceEqDiff, Nat.reduceMul, Int.reduceToNat, reduceIte, Int.reduceLE, Int.reduceNeg]; rfl) (by first | rfl | (simp only [exa, beq_self_eq_true, ByteArray.size, Nat.reduceAdd, Nat.reduceLeDiff, Nat.reduceEqDiff, Nat.reduceMul, Int.reduceToNat, reduceIte, Int.reduceLE, Int.reduceNeg]; rfl)) rfl rfl rfl rfl (nokeep hkeep) (fun z hz => by obtain ⟨y, -, rfl⟩ := List.mem_map.1 hz; rfl) (by have := nx_len code i; simp only [List.length_map, List.length_append, List.length_cons, List.length_nil, List.length_take, List.length_drop]; omega) (by decide) ?_
            refine runk_exec (by simp only [exa, beq_self_eq_true, ByteArray.size, Nat.reduceAdd, Nat.reduceLeDiff, Nat.reduceEqDiff, Nat.reduceMul, Int.reduceToNat, reduceIte, Int.reduceLE, Int.reduceNeg]; rfl) ?_
            have hnn : dfN code i ≠ rgD code rg d := fun e => hne (hdn.2 (e.trans hd))
            refine ⟨(ws ++ nxN code i, G.mark Q i), ⟨hinv.go hnn, fun j hj => (List.mem_append.1 hj).elim (fun h => hlts j (List.mem_cons_of_mem _ h)) (fun h => nxN_lt hok hi h), by simp only [List.length_cons, List.length_append] at hbd ⊢; omega⟩, by simp only [List.length_cons, List.length_append]; omega, ?_⟩
            have hnc := hnxc i hi
            refine le_mk ?sle ?mle ?swf ?mwf (kept_not hkeep) (by rfl)
            case swf => repeat (first | exact swf_top _ | refine swf_upd ?_ (by simp [A.ids, upd_app, hrows, hnc, List.map_append, List.length_map, List.drop_succ_cons, List.drop_zero]))
            case mwf => repeat (first | exact mwf_nil _ | refine mwf_upd ?_ (by simp [A.ids, O.ids, upd_app, hrows, hnc, List.map_append, List.length_map, List.drop_succ_cons, List.drop_zero]))
            case mle => repeat (first | exact mle_nil _ | exact mle_refl _ | refine mle_upd ?_ (by first | rfl | (simp only [upd_app, killM_app, O.kill, A.kill, Nat.reduceEqDiff, reduceIte, Option.map_some, Option.map_none, List.map_cons, List.map_nil, hrows, hnc, List.map_append, List.length_map, List.drop_succ_cons, List.drop_zero]; done)))
            case sle => repeat (first | exact sle_top _ | exact sle_refl _ | refine sle_upd ?_ (by first | rfl | (simp only [upd_app, killS_app, A.kill, entry_zero, entry_succ, Nat.reduceEqDiff, reduceIte, hrows, hnc, List.map_append, List.length_map, List.drop_succ_cons, List.drop_zero]; done)))
end V
end Go.Proofs.YtcldeoolglhdoaaDoor
end
section
set_option linter.unusedVariables false
set_option linter.unusedSimpArgs false
namespace Go.Proofs.YtcldeoolglhdoaaDoor
namespace D18
open C17
section
variable (code : List Ins) (R : Nat)
open Classical in
noncomputable def rowD (d m : Nat) : List (Int × Int) := ((List.range m).filter fun j => decide (EdP code R d j)).map fun j : Nat => ((d : Int) - (R : Int), (j : Int))
noncomputable def preD (d : Nat) : List (Int × Int) := (List.range d).flatMap fun e => rowD code R e code.length
end
section
variable {code : List Ins} {R : Nat}
theorem preD_succ (d : Nat) : preD code R (d + 1) = preD code R d ++ rowD code R d code.length := by
  unfold preD; rw [List.range_succ, List.flatMap_append]; simp
theorem rowD_yes {d j : Nat} (h : EdP code R d j) : rowD code R d (j + 1) = rowD code R d j ++ [((d : Int) - (R : Int), (j : Int))] := by
  unfold rowD; rw [List.range_succ, List.filter_append]; simp [h]
theorem rowD_no {d j : Nat} (h : ¬ EdP code R d j) : rowD code R d (j + 1) = rowD code R d j := by
  unfold rowD; rw [List.range_succ, List.filter_append]; simp [h]
theorem rowD_none {d : Nat} (h : rgD code R d = none) : ∀ m, rowD code R d m = []
  | 0 => rfl
  | m + 1 => by rw [rowD_no (fun ⟨r, hr, _⟩ => by rw [h] at hr; cases hr), rowD_none h m]
theorem rowD_len (d m : Nat) : (rowD code R d m).length ≤ m := by
  unfold rowD
  rw [List.length_map]
  refine Nat.le_trans (List.length_filter_le _ _) ?_
  simp
theorem preD_len (d : Nat) : (preD code R d).length ≤ d * code.length := by
  induction d with
  | zero => simp [preD]
  | succ d ih =>
    rw [preD_succ, List.length_append, Nat.succ_mul]
    have := rowD_len (code := code) (R := R) d code.length
    omega
def useB (l : List Int) (r : Nat) : Bool := l.any fun u => decide (u = (r : Int))
theorem useB_iff {z : Int} (ok : okD code z = true) {j : Nat} {x : Ins} (hx : code[j]? = some x) {r : Nat} : useB (usI x) r = true ↔ r ∈ usN code j := by
  unfold useB usN
  rw [hx, List.any_eq_true]
  show _ ↔ r ∈ (usI x).map Int.toNat
  rw [List.mem_map]
  constructor
  · rintro ⟨u, hu, e⟩
    have e : u = (r : Int) := by simpa using e
    exact ⟨u, hu, by omega⟩
  · rintro ⟨u, hu, e⟩
    have := okD_us ok hx hu
    exact ⟨u, hu, by simp; omega⟩
end
end D18
namespace V
open Go.RowKit G C17 D18
noncomputable def usesA (p : Prc) : List (Bool × List C) := if okD p.code p.regs = true then [(false, [.sl ((edD p.code p.regs.toNat).map cE)]), (false, [.int .i64 0])] else [(false, [.sl []]), (false, [.int .i64 110])]
set_option maxHeartbeats 8000000 in
theorem refUsesP_ok (p : Prc) (hpl : p.code.length ≤ 1000000000000000) (hargs : ∀ x ∈ p.code, x.args.length ≤ 1000000000) (m : Mem) : COk Tryd.prog 9 [.agg (cP p)] m (.tup (usesA p)) := by
  have hmay := fun m => refMay_ok p hpl hargs m
  cases hok : okD p.code p.regs with
  | false =>
    have e : usesA p = [(false, [.sl []]), (false, [.int .i64 110])] := by unfold usesA; rw [if_neg (by simp [hok])]
    rw [e]
    rw [hok] at hmay
    obtain ⟨cls, name, params, regs, code⟩ := p
    have hcp : cP ⟨cls, name, params, regs, code⟩ = [.str cls, .str name, .int .i64 params, .int .i64 regs, .sl (code.map cIns)] := rfl
    refine (ok_pure tab_ok Tryd.func9 (by kernel_rfl) rfl rfl (by rfl) (by rfl) (by rfl) (fun R hkeep => ?_) m)
    (repeat (first | refine W.seq ?_ | refine W.block ?_ | refine W.skip ?_ | refine W.exit ?_))
    refine W.region tab_ok 0 (by decide) (exec_run (by simp only [exa, beq_self_eq_true, ByteArray.size, Nat.reduceAdd, Nat.reduceLeDiff, Nat.reduceEqDiff, Nat.reduceMul, Int.reduceToNat, reduceIte, Int.reduceLE, Int.reduceNeg, hcp, List.map_cons, List.map_nil]; rfl)) ?_
    (repeat (first | refine W.seq ?_ | refine W.block ?_ | refine W.skip ?_ | refine W.exit ?_))
    refine W.regionK tab_ok 0 (by decide) ?_
    refine runk_split 1 (by simp only [exa, beq_self_eq_true, ByteArray.size, Nat.reduceAdd, Nat.reduceLeDiff, Nat.reduceEqDiff, Nat.reduceMul, Int.reduceToNat, reduceIte, Int.reduceLE, Int.reduceNeg, hcp, List.map_cons, List.map_nil]; rfl) ?_
    refine runk_call rfl rfl rfl rfl rfl (by simp) (cvs_cons cv_refl cvs_nil) (hmay _) ?_
    refine runk_exec (by simp only [exa, beq_self_eq_true, ByteArray.size, Nat.reduceAdd, Nat.reduceLeDiff, Nat.reduceEqDiff, Nat.reduceMul, Int.reduceToNat, reduceIte, Int.reduceLE, Int.reduceNeg, Bool.not_false]; rfl) ?_
    refine W.cond rfl (fun _ => ?_) (fun h => absurd h (by simp))
    repeat (first | refine W.seq ?_ | refine W.block ?_ | refine W.skip ?_ | refine W.exit ?_ | refine W.region tab_ok 0 (by decide) (exec_run (by simp only [exa, beq_self_eq_true, ByteArray.size, Nat.reduceAdd, Nat.reduceLeDiff, Nat.reduceEqDiff, Nat.reduceMul, Int.reduceToNat, reduceIte, Int.reduceLE, Int.reduceNeg]; rfl)) ?_)
    refine W.ret ⟨.inr rfl, by rfl, ?_⟩
    simp only [Tryd.f9, resA, resOne, toT, fin, exa, beq_self_eq_true, ByteArray.size, Nat.reduceAdd, Nat.reduceLeDiff, Nat.reduceEqDiff, Nat.reduceMul, Int.reduceToNat, reduceIte, Int.reduceLE, Int.reduceNeg]
  | true =>
    have hl := okD_len hok
    obtain ⟨rg, hrg⟩ := Int.eq_ofNat_of_zero_le hl.2.2.1
    have e : usesA p = [(false, [.sl ((edD p.code rg).map cE)]), (false, [.int .i64 0])] := by unfold usesA; rw [if_pos hok, hrg]; rfl
    rw [e]
    rw [hok] at hmay
    have hok' : okD p.code rg = true := by rw [← hrg]; exact hok
    have hwf : ∀ d : Nat, d < rg + p.code.length → (Lit.int .i64 ((d : Int) - rg)).wf = true := fun d hd => by rw [lit_wf]; simp [IntKind.min, IntKind.max, IntKind.bits, IntKind.signed]; omega
    have hof := fun (d : Nat) (hd : d < rg + p.code.length) m => refOf_ok p ((d : Int) - rg) (hwf d hd) m
    have hcm := fun (d r : Nat) hd m => comes_ok p rg hrg hok' d r hd m
    obtain ⟨cls, name, params, regs, code⟩ := p
    simp only at hrg hok' hof hcm hargs hl ⊢
    subst hrg
    have hcp : cP ⟨cls, name, params, rg, code⟩ = [.str cls, .str name, .int .i64 params, .int .i64 rg, .sl (code.map cIns)] := rfl
    have hw0 : IntKind.i64.wrap (0 - (rg : Int)) = ((0 : Nat) : Int) - (rg : Int) := by rw [IntKind.wrap_i64]; omega
    refine (ok_pure tab_ok Tryd.func9 (by kernel_rfl) rfl rfl (by rfl) (by rfl) (by rfl) (fun R hkeep => ?_) m)
    (repeat (first | refine W.seq ?_ | refine W.block ?_ | refine W.skip ?_ | refine W.exit ?_))
    refine W.region tab_ok 0 (by decide) (exec_run (by simp only [exa, beq_self_eq_true, ByteArray.size, Nat.reduceAdd, Nat.reduceLeDiff, Nat.reduceEqDiff, Nat.reduceMul, Int.reduceToNat, reduceIte, Int.reduceLE, Int.reduceNeg, hcp, List.map_cons, List.map_nil]; rfl)) ?_
    (repeat (first | refine W.seq ?_ | refine W.block ?_ | refine W.skip ?_ | refine W.exit ?_))
    refine W.regionK tab_ok 0 (by decide) ?_
    refine runk_split 1 (by simp only [exa, beq_self_eq_true, ByteArray.size, Nat.reduceAdd, Nat.reduceLeDiff, Nat.reduceEqDiff, Nat.reduceMul, Int.reduceToNat, reduceIte, Int.reduceLE, Int.reduceNeg, hcp, List.map_cons, List.map_nil]; rfl) ?_
    refine runk_call rfl rfl rfl rfl rfl (by simp) (cvs_cons cv_refl cvs_nil) (hmay _) ?_
    refine runk_exec (by simp only [exa, beq_self_eq_true, ByteArray.size, Nat.reduceAdd, Nat.reduceLeDiff, Nat.reduceEqDiff, Nat.reduceMul, Int.reduceToNat, reduceIte, Int.reduceLE, Int.reduceNeg, Bool.not_true]; rfl) ?_
    refine W.cond rfl (fun h => absurd h (by simp)) (fun _ => ?_)
    repeat (first | refine W.seq ?_ | refine W.block ?_ | refine W.skip ?_ | refine W.exit ?_ | refine W.region tab_ok 0 (by decide) (exec_run (by simp only [exa, beq_self_eq_true, ByteArray.size, Nat.reduceAdd, Nat.reduceLeDiff, Nat.reduceEqDiff, Nat.reduceMul, Int.reduceToNat, reduceIte, Int.reduceLE, Int.reduceNeg, hw0]; rfl)) ?_)
    refine W.newArr 4 60 37 2 rfl rfl ?_
    refine W.loop (ι := Nat) (fun d => ⟨upd (upd (upd (fun _ => .top) 1 (.ptr 1 0)) 4 (.own 60)) 5 (.c (.int .i64 ((d : Int) - rg))), upd (upd Mem.nil 1 (some (.box 24 [.c (.str cls), .c (.str name), .c (.int .i64 params), .c (.int .i64 rg), .c (.sl (code.map cIns))]))) 60 (some (.arr 37 2 ((preD code rg d).map cE)))⟩) (fun d => d ≤ rg + code.length) (fun d => rg + code.length - d) 0 ?start (Nat.zero_le _) ?round
    case start =>
      refine le_mk ?sle ?mle ?swf ?mwf (kept_not hkeep) (by rfl)
      case swf => repeat (first | exact swf_top _ | refine swf_upd ?_ (by simp [A.ids, upd_app, show preD code rg 0 = [] from rfl, List.map_nil]))
      case mwf => repeat (first | exact mwf_nil _ | refine mwf_upd ?_ (by simp [A.ids, O.ids, upd_app, show preD code rg 0 = [] from rfl, List.map_nil]))
      case mle => repeat (first | exact mle_nil _ | exact mle_refl _ | refine mle_upd ?_ (by first | rfl | (simp only [upd_app, killM_app, O.kill, A.kill, Nat.reduceEqDiff, reduceIte, Option.map_some, Option.map_none, List.map_cons, List.map_nil, show preD code rg 0 = [] from rfl, List.map_nil]; done)))
      case sle => repeat (first | exact sle_top _ | exact sle_refl _ | refine sle_upd ?_ (by first | rfl | (simp only [upd_app, killS_app, A.kill, entry_zero, entry_succ, Nat.reduceEqDiff, reduceIte, show preD code rg 0 = [] from rfl, List.map_nil]; done)))
    case round =>
      intro d hd
      have hpre := preD_len (code := code) (R := rg) d
      have hpb : d * code.length ≤ 12000 * 2000 := Nat.mul_le_mul (by omega) (by omega)
      by_cases hlt : d < rg + code.length
      · have hq := eq_true (show (d : Int) - rg < code.length by omega)
        have hws : IntKind.i64.wrap ((d : Int) - rg + 1) = ((d + 1 : Nat) : Int) - rg := by rw [IntKind.wrap_i64]; omega
        repeat (first | refine W.seq ?_ | refine W.block ?_ | refine W.skip ?_ | refine W.exit ?_ | refine W.region tab_ok 0 (by decide) (exec_run (by simp only [exa, beq_self_eq_true, ByteArray.size, Nat.reduceAdd, Nat.reduceLeDiff, Nat.reduceEqDiff, Nat.reduceMul, Int.reduceToNat, reduceIte, Int.reduceLE, Int.reduceNeg, List.length_map, hq, decide_true]; rfl)) ?_)
        refine W.cond rfl (fun _ => ?_) (fun h => absurd h (by simp))
        have hofd := fun m => hof d hlt m
        cases hr : rgD code rg d with
        | none =>
          rw [ofI_none hlt hr] at hofd
          have hnext : preD code rg (d + 1) = preD code rg d := by rw [preD_succ, rowD_none hr, List.append_nil]
          (repeat (first | refine W.seq ?_ | refine W.block ?_ | refine W.skip ?_ | refine W.exit ?_))
          refine W.regionK tab_ok 0 (by decide) ?_
          refine runk_split 2 (by simp only [exa, beq_self_eq_true, ByteArray.size, Nat.reduceAdd, Nat.reduceLeDiff, Nat.reduceEqDiff, Nat.reduceMul, Int.reduceToNat, reduceIte, Int.reduceLE, Int.reduceNeg, hcp, List.map_cons, List.map_nil]; rfl) ?_
          refine runk_call rfl rfl rfl rfl rfl (by simp) (cvs_cons cv_refl (cvs_cons cv_refl cvs_nil)) (hofd _) ?_
          refine runk_exec (by simp only [exa, beq_self_eq_true, ByteArray.size, Nat.reduceAdd, Nat.reduceLeDiff, Nat.reduceEqDiff, Nat.reduceMul, Int.reduceToNat, reduceIte, Int.reduceLE, Int.reduceNeg]; rfl) ?_
          repeat (first | refine W.seq ?_ | refine W.block ?_ | refine W.skip ?_ | refine W.exit ?_ | refine W.region tab_ok 0 (by decide) (exec_run (by simp only [exa, beq_self_eq_true, ByteArray.size, Nat.reduceAdd, Nat.reduceLeDiff, Nat.reduceEqDiff, Nat.reduceMul, Int.reduceToNat, reduceIte, Int.reduceLE, Int.reduceNeg, Int.reduceNeg, Int.reduceLT, decide_true]; rfl)) ?_)
          refine W.cond rfl (fun _ => ?_) (fun h => absurd h (by simp))
          repeat (first | refine W.seq ?_ | refine W.block ?_ | refine W.skip ?_ | refine W.exit ?_ | refine W.region tab_ok 0 (by decide) (exec_run (by simp only [exa, beq_self_eq_true, ByteArray.size, Nat.reduceAdd, Nat.reduceLeDiff, Nat.reduceEqDiff, Nat.reduceMul, Int.reduceToNat, reduceIte, Int.reduceLE, Int.reduceNeg, hws]; rfl)) ?_)
          refine ⟨d + 1, hlt, by omega, ?_⟩
          refine le_mk ?sle ?mle ?swf ?mwf (kept_not hkeep) (by rfl)
          case swf => repeat (first | exact swf_top _ | refine swf_upd ?_ (by simp [A.ids, upd_app, hnext]))
          case mwf => repeat (first | exact mwf_nil _ | refine mwf_upd ?_ (by simp [A.ids, O.ids, upd_app, hnext]))
          case mle => repeat (first | exact mle_nil _ | exact mle_refl _ | refine mle_upd ?_ (by first | rfl | (simp only [upd_app, killM_app, O.kill, A.kill, Nat.reduceEqDiff, reduceIte, Option.map_some, Option.map_none, List.map_cons, List.map_nil, hnext]; done)))
          case sle => repeat (first | exact sle_top _ | exact sle_refl _ | refine sle_upd ?_ (by first | rfl | (simp only [upd_app, killS_app, A.kill, entry_zero, entry_succ, Nat.reduceEqDiff, reduceIte, hnext]; done)))
        | some r =>
          rw [ofI_place hok' hr] at hofd
          have hcmd := fun m => hcm d r hr m
          have hq1 := eq_false (show ¬ (r : Int) < 0 by omega)
          (repeat (first | refine W.seq ?_ | refine W.block ?_ | refine W.skip ?_ | refine W.exit ?_))
          refine W.regionK tab_ok 0 (by decide) ?_
          refine runk_split 2 (by simp only [exa, beq_self_eq_true, ByteArray.size, Nat.reduceAdd, Nat.reduceLeDiff, Nat.reduceEqDiff, Nat.reduceMul, Int.reduceToNat, reduceIte, Int.reduceLE, Int.reduceNeg, hcp, List.map_cons, List.map_nil]; rfl) ?_
          refine runk_call rfl rfl rfl rfl rfl (by simp) (cvs_cons cv_refl (cvs_cons cv_refl cvs_nil)) (hofd _) ?_
          refine runk_exec (by simp only [exa, beq_self_eq_true, ByteArray.size, Nat.reduceAdd, Nat.reduceLeDiff, Nat.reduceEqDiff, Nat.reduceMul, Int.reduceToNat, reduceIte, Int.reduceLE, Int.reduceNeg]; rfl) ?_
          repeat (first | refine W.seq ?_ | refine W.block ?_ | refine W.skip ?_ | refine W.exit ?_ | refine W.region tab_ok 0 (by decide) (exec_run (by simp only [exa, beq_self_eq_true, ByteArray.size, Nat.reduceAdd, Nat.reduceLeDiff, Nat.reduceEqDiff, Nat.reduceMul, Int.reduceToNat, reduceIte, Int.reduceLE, Int.reduceNeg, hq1, decide_false]; rfl)) ?_)
          refine W.cond rfl (fun h => absurd h (by simp)) (fun _ => ?_)
          (repeat (first | refine W.seq ?_ | refine W.block ?_ | refine W.skip ?_ | refine W.exit ?_))
          refine W.regionK tab_ok 0 (by decide) ?_
          refine runk_split 2 (by simp only [exa, beq_self_eq_true, ByteArray.size, Nat.reduceAdd, Nat.reduceLeDiff, Nat.reduceEqDiff, Nat.reduceMul, Int.reduceToNat, reduceIte, Int.reduceLE, Int.reduceNeg, hcp, List.map_cons, List.map_nil]; rfl) ?_
          refine runk_call rfl rfl rfl rfl rfl (by simp) (cvs_cons cv_refl (cvs_cons cv_refl cvs_nil)) (hcmd _) ?_
          refine runk_exec (by simp only [exa, beq_self_eq_true, ByteArray.size, Nat.reduceAdd, Nat.reduceLeDiff, Nat.reduceEqDiff, Nat.reduceMul, Int.reduceToNat, reduceIte, Int.reduceLE, Int.reduceNeg, rowB_len]; rfl) ?_
          (repeat (first | refine W.seq ?_ | refine W.block ?_ | refine W.skip ?_ | refine W.exit ?_))
          refine W.loop (ι := Nat) (fun j => ⟨upd (upd (upd (upd (upd (upd (upd (fun _ => .top) 1 (.ptr 1 0)) 4 (.own 60)) 5 (.c (.int .i64 ((d : Int) - rg)))) 6 (.c (.int .i64 r))) 32 (.c (.sl (rowB code.length (cmB code rg d))))) 33 (.c (.int .i64 code.length))) 34 (.c (.int .i64 j)), upd (upd Mem.nil 1 (some (.box 24 [.c (.str cls), .c (.str name), .c (.int .i64 params), .c (.int .i64 rg), .c (.sl (code.map cIns))]))) 60 (some (.arr 37 2 ((preD code rg d ++ rowD code rg d j).map cE)))⟩) (fun j => j ≤ code.length) (fun j => code.length - j) 0 ?start2 (Nat.zero_le _) ?round2
          case start2 =>
            refine le_mk ?sle ?mle ?swf ?mwf (kept_not hkeep) (by rfl)
            case swf => repeat (first | exact swf_top _ | refine swf_upd ?_ (by simp [A.ids, upd_app, show rowD code rg d 0 = [] from rfl, List.append_nil]))
            case mwf => repeat (first | exact mwf_nil _ | refine mwf_upd ?_ (by simp [A.ids, O.ids, upd_app, show rowD code rg d 0 = [] from rfl, List.append_nil]))
            case mle => repeat (first | exact mle_nil _ | exact mle_refl _ | refine mle_upd ?_ (by first | rfl | (simp only [upd_app, killM_app, O.kill, A.kill, Nat.reduceEqDiff, reduceIte, Option.map_some, Option.map_none, List.map_cons, List.map_nil, show rowD code rg d 0 = [] from rfl, List.append_nil]; done)))
            case sle => repeat (first | exact sle_top _ | exact sle_refl _ | refine sle_upd ?_ (by first | rfl | (simp only [upd_app, killS_app, A.kill, entry_zero, entry_succ, Nat.reduceEqDiff, reduceIte, show rowD code rg d 0 = [] from rfl, List.append_nil]; done)))
          case round2 =>
            intro j hj
            have hrl := rowD_len (code := code) (R := rg) d j
            repeat (first | refine W.seq ?_ | refine W.block ?_ | refine W.skip ?_ | refine W.exit ?_ | refine W.region tab_ok 0 (by decide) (exec_run (by simp only [exa, beq_self_eq_true, ByteArray.size, Nat.reduceAdd, Nat.reduceLeDiff, Nat.reduceEqDiff, Nat.reduceMul, Int.reduceToNat, reduceIte, Int.reduceLE, Int.reduceNeg]; rfl)) ?_)
            refine W.cond rfl ?_ ?_
            · intro hjl
              simp only [decide_eq_true_eq, Int.ofNat_lt] at hjl
              obtain ⟨x, hx⟩ : ∃ x, code[j]? = some x := ⟨_, List.getElem?_eq_getElem hjl⟩
              have hax := hargs x (List.mem_of_getElem? hx)
              have hul := usI_len x
              have hxc : cIns x = [.int .i64 x.kind, .int .i64 x.dst, .int .i64 x.a, .int .i64 x.b, .int .i64 x.c, .int .i64 x.tt, .int .i64 x.els, .int .i64 x.num, .str x.name, .sl (x.args.map fun z => [C.int .i64 z])] := rfl
              have hus := fun m => refUses_ok x (by omega) m
              rw [hxc] at hus
              have hj0 : (0 : Int) ≤ (j : Int) := by omega
              cases hc : cmB code rg d j with
              | false =>
                have hnext : rowD code rg d (j + 1) = rowD code rg d j := rowD_no fun ⟨_, _, _, h⟩ => by rw [cmB_iff.2 h] at hc; cases hc
                repeat (first | refine W.seq ?_ | refine W.block ?_ | refine W.skip ?_ | refine W.exit ?_ | refine W.region tab_ok 0 (by decide) (exec_run (by simp only [exa, beq_self_eq_true, ByteArray.size, Nat.reduceAdd, Nat.reduceLeDiff, Nat.reduceEqDiff, Nat.reduceMul, Int.reduceToNat, reduceIte, Int.reduceLE, Int.reduceNeg, rowB_at hjl, hc, Bool.not_false]; rfl)) ?_)
                refine W.cond rfl (fun _ => ?_) (fun h => absurd h (by simp))
                repeat (first | refine W.seq ?_ | refine W.block ?_ | refine W.skip ?_ | refine W.exit ?_ | refine W.region tab_ok 0 (by decide) (exec_run (by simp only [exa, beq_self_eq_true, ByteArray.size, Nat.reduceAdd, Nat.reduceLeDiff, Nat.reduceEqDiff, Nat.reduceMul, Int.reduceToNat, reduceIte, Int.reduceLE, Int.reduceNeg]; rfl)) ?_)
                refine ⟨j + 1, hjl, by omega, ?_⟩
                refine le_mk ?sle ?mle ?swf ?mwf (kept_not hkeep) (by rfl)
                case swf => repeat (first | exact swf_top _ | refine swf_upd ?_ (by simp [A.ids, upd_app, hnext, List.map_append, List.append_assoc, List.map_cons, List.map_nil, cE, List.append_nil, wrap_succ (show j + 1 < 9223372036854775808 by omega)]))
                case mwf => repeat (first | exact mwf_nil _ | refine mwf_upd ?_ (by simp [A.ids, O.ids, upd_app, hnext, List.map_append, List.append_assoc, List.map_cons, List.map_nil, cE, List.append_nil, wrap_succ (show j + 1 < 9223372036854775808 by omega)]))
                case mle => repeat (first | exact mle_nil _ | exact mle_refl _ | refine mle_upd ?_ (by first | rfl | (simp only [upd_app, killM_app, O.kill, A.kill, Nat.reduceEqDiff, reduceIte, Option.map_some, Option.map_none, List.map_cons, List.map_nil, hnext, List.map_append, List.append_assoc, List.map_cons, List.map_nil, cE, List.append_nil, wrap_succ (show j + 1 < 9223372036854775808 by omega)]; done)))
                case sle => repeat (first | exact sle_top _ | exact sle_refl _ | refine sle_upd ?_ (by first | rfl | (simp only [upd_app, killS_app, A.kill, entry_zero, entry_succ, Nat.reduceEqDiff, reduceIte, hnext, List.map_append, List.append_assoc, List.map_cons, List.map_nil, cE, List.append_nil, wrap_succ (show j + 1 < 9223372036854775808 by omega)]; done)))
              | true =>
                repeat (first | refine W.seq ?_ | refine W.block ?_ | refine W.skip ?_ | refine W.exit ?_ | refine W.region tab_ok 0 (by decide) (exec_run (by simp only [exa, beq_self_eq_true, ByteArray.size, Nat.reduceAdd, Nat.reduceLeDiff, Nat.reduceEqDiff, Nat.reduceMul, Int.reduceToNat, reduceIte, Int.reduceLE, Int.reduceNeg, rowB_at hjl, hc, Bool.not_true]; rfl)) ?_)
                refine W.cond rfl (fun h => absurd h (by simp)) (fun _ => ?_)
                (repeat (first | refine W.seq ?_ | refine W.block ?_ | refine W.skip ?_ | refine W.exit ?_))
                refine W.region tab_ok 0 (by decide) (exec_run (by simp only [exa, beq_self_eq_true, ByteArray.size, Nat.reduceAdd, Nat.reduceLeDiff, Nat.reduceEqDiff, Nat.reduceMul, Int.reduceToNat, reduceIte, Int.reduceLE, Int.reduceNeg]; rfl)) ?_
                (repeat (first | refine W.seq ?_ | refine W.block ?_ | refine W.skip ?_ | refine W.exit ?_))
                refine W.regionK tab_ok 0 (by decide) ?_
                refine runk_split 5 (by simp only [exa, beq_self_eq_true, ByteArray.size, Nat.reduceAdd, Nat.reduceLeDiff, Nat.reduceEqDiff, Nat.reduceMul, Int.reduceToNat, reduceIte, Int.reduceLE, Int.reduceNeg, at_map hx, hxc, hj0, List.length_map, Int.toNat_natCast]; rfl) ?_
                refine runk_call rfl rfl rfl rfl rfl (by simp) (cvs_cons cv_refl cvs_nil) (hus _) ?_
                refine runk_exec (by simp only [exa, beq_self_eq_true, ByteArray.size, Nat.reduceAdd, Nat.reduceLeDiff, Nat.reduceEqDiff, Nat.reduceMul, Int.reduceToNat, reduceIte, Int.reduceLE, Int.reduceNeg, List.length_map]; rfl) ?_
                (repeat (first | refine W.seq ?_ | refine W.block ?_ | refine W.skip ?_ | refine W.exit ?_))
                refine W.loop (ι := Nat × Bool) (fun y => ⟨upd (upd (upd (upd (upd (upd (upd (upd (upd (upd (upd (upd (fun _ => .top) 1 (.ptr 1 0)) 4 (.own 60)) 5 (.c (.int .i64 ((d : Int) - rg)))) 6 (.c (.int .i64 r))) 32 (.c (.sl (rowB code.length (cmB code rg d))))) 33 (.c (.int .i64 code.length))) 34 (.c (.int .i64 j))) 7 (.c (.int .i64 j))) 9 (.c (.bool y.2))) 46 (.c (.sl ((usI x).map cZ)))) 47 (.c (.int .i64 (usI x).length))) 48 (.c (.int .i64 y.1)), upd (upd Mem.nil 1 (some (.box 24 [.c (.str cls), .c (.str name), .c (.int .i64 params), .c (.int .i64 rg), .c (.sl (code.map cIns))]))) 60 (some (.arr 37 2 ((preD code rg d ++ rowD code rg d j).map cE)))⟩) (fun y => y.1 ≤ (usI x).length ∧ y.2 = useB ((usI x).take y.1) r) (fun y => (usI x).length - y.1) (0, false) ?start3 ⟨Nat.zero_le _, rfl⟩ ?round3
                case start3 =>
                  refine le_mk ?sle ?mle ?swf ?mwf (kept_not hkeep) (by rfl)
                  case swf => repeat (first | exact swf_top _ | refine swf_upd ?_ (by simp [A.ids, upd_app]))
                  case mwf => repeat (first | exact mwf_nil _ | refine mwf_upd ?_ (by simp [A.ids, O.ids, upd_app]))
                  case mle => repeat (first | exact mle_nil _ | exact mle_refl _ | refine mle_upd ?_ (by first | rfl | (simp only [upd_app, killM_app, O.kill, A.kill, Nat.reduceEqDiff, reduceIte, Option.map_some, Option.map_none, List.map_cons, List.map_nil]; done)))
                  case sle => repeat (first | exact sle_top _ | exact sle_refl _ | refine sle_upd ?_ (by first | rfl | (simp only [upd_app, killS_app, A.kill, entry_zero, entry_succ, Nat.reduceEqDiff, reduceIte]; done)))
                case round3 =>
                  rintro ⟨q, b⟩ ⟨hql, hb⟩
                  simp only at hql hb
                  repeat (first | refine W.seq ?_ | refine W.block ?_ | refine W.skip ?_ | refine W.exit ?_ | refine W.region tab_ok 0 (by decide) (exec_run (by simp only [exa, beq_self_eq_true, ByteArray.size, Nat.reduceAdd, Nat.reduceLeDiff, Nat.reduceEqDiff, Nat.reduceMul, Int.reduceToNat, reduceIte, Int.reduceLE, Int.reduceNeg]; rfl)) ?_)
                  refine W.cond rfl ?_ ?_
                  · intro hq3
                    simp only [decide_eq_true_eq, Int.ofNat_lt] at hq3
                    obtain ⟨z, hz⟩ : ∃ z, (usI x)[q]? = some z := ⟨_, List.getElem?_eq_getElem hq3⟩
                    have hnx : useB ((usI x).take (q + 1)) r = (b || decide (z = (r : Int))) := by
                      unfold useB at hb ⊢
                      rw [List.take_add_one, hz, List.any_append, ← hb]; simp
                    cases b with
                    | true =>
                      repeat (first | refine W.seq ?_ | refine W.block ?_ | refine W.skip ?_ | refine W.exit ?_ | refine W.region tab_ok 0 (by decide) (exec_run (by simp only [exa, beq_self_eq_true, ByteArray.size, Nat.reduceAdd, Nat.reduceLeDiff, Nat.reduceEqDiff, Nat.reduceMul, Int.reduceToNat, reduceIte, Int.reduceLE, Int.reduceNeg, at_map hz, cZ]; rfl)) ?_)
                      refine ⟨(q + 1, true), ⟨hq3, by rw [hnx]; rfl⟩, by simp only; omega, ?_⟩
                      refine le_mk ?sle ?mle ?swf ?mwf (kept_not hkeep) (by rfl)
                      case swf => repeat (first | exact swf_top _ | refine swf_upd ?_ (by simp [A.ids, upd_app, wrap_succ (show q + 1 < 9223372036854775808 by omega)]))
                      case mwf => repeat (first | exact mwf_nil _ | refine mwf_upd ?_ (by simp [A.ids, O.ids, upd_app, wrap_succ (show q + 1 < 9223372036854775808 by omega)]))
                      case mle => repeat (first | exact mle_nil _ | exact mle_refl _ | refine mle_upd ?_ (by first | rfl | (simp only [upd_app, killM_app, O.kill, A.kill, Nat.reduceEqDiff, reduceIte, Option.map_some, Option.map_none, List.map_cons, List.map_nil, wrap_succ (show q + 1 < 9223372036854775808 by omega)]; done)))
                      case sle => repeat (first | exact sle_top _ | exact sle_refl _ | refine sle_upd ?_ (by first | rfl | (simp only [upd_app, killS_app, A.kill, entry_zero, entry_succ, Nat.reduceEqDiff, reduceIte, wrap_succ (show q + 1 < 9223372036854775808 by omega)]; done)))
                    | false =>
                      repeat (first | refine W.seq ?_ | refine W.block ?_ | refine W.skip ?_ | refine W.exit ?_ | refine W.region tab_ok 0 (by decide) (exec_run (by simp only [exa, beq_self_eq_true, ByteArray.size, Nat.reduceAdd, Nat.reduceLeDiff, Nat.reduceEqDiff, Nat.reduceMul, Int.reduceToNat, reduceIte, Int.reduceLE, Int.reduceNeg, at_map hz, cZ]; rfl)) ?_)
                      refine ⟨(q + 1, decide (z = (r : Int))), ⟨hq3, by rw [hnx, Bool.false_or]⟩, by simp only; omega, ?_⟩
                      refine le_mk ?sle ?mle ?swf ?mwf (kept_not hkeep) (by rfl)
                      case swf => repeat (first | exact swf_top _ | refine swf_upd ?_ (by simp [A.ids, upd_app, wrap_succ (show q + 1 < 9223372036854775808 by omega)]))
                      case mwf => repeat (first | exact mwf_nil _ | refine mwf_upd ?_ (by simp [A.ids, O.ids, upd_app, wrap_succ (show q + 1 < 9223372036854775808 by omega)]))
                      case mle => repeat (first | exact mle_nil _ | exact mle_refl _ | refine mle_upd ?_ (by first | rfl | (simp only [upd_app, killM_app, O.kill, A.kill, Nat.reduceEqDiff, reduceIte, Option.map_some, Option.map_none, List.map_cons, List.map_nil, wrap_succ (show q + 1 < 9223372036854775808 by omega)]; done)))
                      case sle => repeat (first | exact sle_top _ | exact sle_refl _ | refine sle_upd ?_ (by first | rfl | (simp only [upd_app, killS_app, A.kill, entry_zero, entry_succ, Nat.reduceEqDiff, reduceIte, wrap_succ (show q + 1 < 9223372036854775808 by omega)]; done)))
                  · intro hq3
                    simp only [decide_eq_false_iff_not, Int.ofNat_lt] at hq3
                    obtain rfl : q = (usI x).length := by omega
                    rw [List.take_length] at hb
                    repeat (first | refine W.seq ?_ | refine W.block ?_ | refine W.skip ?_ | refine W.exit ?_ | refine W.region tab_ok 0 (by decide) (exec_run (by simp only [exa, beq_self_eq_true, ByteArray.size, Nat.reduceAdd, Nat.reduceLeDiff, Nat.reduceEqDiff, Nat.reduceMul, Int.reduceToNat, reduceIte, Int.reduceLE, Int.reduceNeg]; rfl)) ?_)
                    cases b with
                    | true =>
                      have hnext : rowD code rg d (j + 1) = rowD code rg d j ++ [((d : Int) - (rg : Int), (j : Int))] := rowD_yes ⟨r, hr, (useB_iff hok' hx).1 hb.symm, cmB_iff.1 hc⟩
                      refine W.cond rfl (fun _ => ?_) (fun h => absurd h (by simp))
                      (repeat (first | refine W.seq ?_ | refine W.block ?_ | refine W.skip ?_ | refine W.exit ?_))
                      refine W.regionK tab_ok 0 (by decide) ?_
                      refine runk_split 5 (by simp only [exa, beq_self_eq_true, ByteArray.size, Nat.reduceAdd, Nat.reduceLeDiff, Nat.reduceEqDiff, Nat.reduceMul, Int.reduceToNat, reduceIte, Int.reduceLE, Int.reduceNeg]; rfl) ?_
                      refine runk_append tab_ok 60 rfl rfl rfl rfl rfl rfl rfl rfl (by first | rfl | (simp only [exa, beq_self_eq_true, ByteArray.size, Nat.reduceAdd, Nat.reduceLeDiff, Nat.reduceEqDiff, Nat.reduceMul, Int.reduceToNat, reduceIte, Int.reduceLE, Int.reduceNeg]; rfl)) rfl rfl rfl rfl (nokeep hkeep) (by intro z hz; simp at hz; subst hz; rfl) (by simp only [List.length_map, List.length_append, List.length_cons, List.length_nil]; omega) (by decide) ?_
                      refine runk_exec (by simp only [exa, beq_self_eq_true, ByteArray.size, Nat.reduceAdd, Nat.reduceLeDiff, Nat.reduceEqDiff, Nat.reduceMul, Int.reduceToNat, reduceIte, Int.reduceLE, Int.reduceNeg]; rfl) ?_
                      repeat (first | refine W.seq ?_ | refine W.block ?_ | refine W.skip ?_ | refine W.exit ?_ | refine W.region tab_ok 0 (by decide) (exec_run (by simp only [exa, beq_self_eq_true, ByteArray.size, Nat.reduceAdd, Nat.reduceLeDiff, Nat.reduceEqDiff, Nat.reduceMul, Int.reduceToNat, reduceIte, Int.reduceLE, Int.reduceNeg]; rfl)) ?_)
                      refine ⟨j + 1, hjl, by omega, ?_⟩
                      refine le_mk ?sle ?mle ?swf ?mwf (kept_not hkeep) (by rfl)
                      case swf => repeat (first | exact swf_top _ | refine swf_upd ?_ (by simp [A.ids, upd_app, hnext, List.map_append, List.append_assoc, List.map_cons, List.map_nil, cE, List.append_nil, wrap_succ (show j + 1 < 9223372036854775808 by omega)]))
                      case mwf => repeat (first | exact mwf_nil _ | refine mwf_upd ?_ (by simp [A.ids, O.ids, upd_app, hnext, List.map_append, List.append_assoc, List.map_cons, List.map_nil, cE, List.append_nil, wrap_succ (show j + 1 < 9223372036854775808 by omega)]))
                      case mle => repeat (first | exact mle_nil _ | exact mle_refl _ | refine mle_upd ?_ (by first | rfl | (simp only [upd_app, killM_app, O.kill, A.kill, Nat.reduceEqDiff, reduceIte, Option.map_some, Option.map_none, List.map_cons, List.map_nil, hnext, List.map_append, List.append_assoc, List.map_cons, List.map_nil, cE, List.append_nil, wrap_succ (show j + 1 < 9223372036854775808 by omega)]; done)))
                      case sle => repeat (first | exact sle_top _ | exact sle_refl _ | refine sle_upd ?_ (by first | rfl | (simp only [upd_app, killS_app, A.kill, entry_zero, entry_succ, Nat.reduceEqDiff, reduceIte, hnext, List.map_append, List.append_assoc, List.map_cons, List.map_nil, cE, List.append_nil, wrap_succ (show j + 1 < 9223372036854775808 by omega)]; done)))
                    | false =>
                      have hnext : rowD code rg d (j + 1) = rowD code rg d j := rowD_no fun ⟨r', h1, h2, _⟩ => by
                        rw [hr] at h1; cases h1
                        rw [(useB_iff hok' hx).2 h2] at hb; cases hb
                      refine W.cond rfl (fun h => absurd h (by simp)) (fun _ => ?_)
                      repeat (first | refine W.seq ?_ | refine W.block ?_ | refine W.skip ?_ | refine W.exit ?_ | refine W.region tab_ok 0 (by decide) (exec_run (by simp only [exa, beq_self_eq_true, ByteArray.size, Nat.reduceAdd, Nat.reduceLeDiff, Nat.reduceEqDiff, Nat.reduceMul, Int.reduceToNat, reduceIte, Int.reduceLE, Int.reduceNeg]; rfl)) ?_)
                      refine ⟨j + 1, hjl, by omega, ?_⟩
                      refine le_mk ?sle ?mle ?swf ?mwf (kept_not hkeep) (by rfl)
                      case swf => repeat (first | exact swf_top _ | refine swf_upd ?_ (by simp [A.ids, upd_app, hnext, List.map_append, List.append_assoc, List.map_cons, List.map_nil, cE, List.append_nil, wrap_succ (show j + 1 < 9223372036854775808 by omega)]))
                      case mwf => repeat (first | exact mwf_nil _ | refine mwf_upd ?_ (by simp [A.ids, O.ids, upd_app, hnext, List.map_append, List.append_assoc, List.map_cons, List.map_nil, cE, List.append_nil, wrap_succ (show j + 1 < 9223372036854775808 by omega)]))
                      case mle => repeat (first | exact mle_nil _ | exact mle_refl _ | refine mle_upd ?_ (by first | rfl | (simp only [upd_app, killM_app, O.kill, A.kill, Nat.reduceEqDiff, reduceIte, Option.map_some, Option.map_none, List.map_cons, List.map_nil, hnext, List.map_append, List.append_assoc, List.map_cons, List.map_nil, cE, List.append_nil, wrap_succ (show j + 1 < 9223372036854775808 by omega)]; done)))
                      case sle => repeat (first | exact sle_top _ | exact sle_refl _ | refine sle_upd ?_ (by first | rfl | (simp only [upd_app, killS_app, A.kill, entry_zero, entry_succ, Nat.reduceEqDiff, reduceIte, hnext, List.map_append, List.append_assoc, List.map_cons, List.map_nil, cE, List.append_nil, wrap_succ (show j + 1 < 9223372036854775808 by omega)]; done)))
            · intro hjl
              simp only [decide_eq_false_iff_not, Int.ofNat_lt] at hjl
              obtain rfl : j = code.length := by omega
              have hnext := preD_succ (code := code) (R := rg) d
              repeat (first | refine W.seq ?_ | refine W.block ?_ | refine W.skip ?_ | refine W.exit ?_ | refine W.region tab_ok 0 (by decide) (exec_run (by simp only [exa, beq_self_eq_true, ByteArray.size, Nat.reduceAdd, Nat.reduceLeDiff, Nat.reduceEqDiff, Nat.reduceMul, Int.reduceToNat, reduceIte, Int.reduceLE, Int.reduceNeg, hws]; rfl)) ?_)
              refine ⟨d + 1, hlt, by omega, ?_⟩
              refine le_mk ?sle ?mle ?swf ?mwf (kept_not hkeep) (by rfl)
              case swf => repeat (first | exact swf_top _ | refine swf_upd ?_ (by simp [A.ids, upd_app, hnext]))
              case mwf => repeat (first | exact mwf_nil _ | refine mwf_upd ?_ (by simp [A.ids, O.ids, upd_app, hnext]))
              case mle => repeat (first | exact mle_nil _ | exact mle_refl _ | refine mle_upd ?_ (by first | rfl | (simp only [upd_app, killM_app, O.kill, A.kill, Nat.reduceEqDiff, reduceIte, Option.map_some, Option.map_none, List.map_cons, List.map_nil, hnext]; done)))
              case sle => repeat (first | exact sle_top _ | exact sle_refl _ | refine sle_upd ?_ (by first | rfl | (simp only [upd_app, killS_app, A.kill, entry_zero, entry_succ, Nat.reduceEqDiff, reduceIte, hnext]; done)))
      · have hq := eq_false (show ¬ (d : Int) - rg < code.length by omega)
        obtain rfl : d = rg + code.length := by omega
        repeat (first | refine W.seq ?_ | refine W.block ?_ | refine W.skip ?_ | refine W.exit ?_ | refine W.region tab_ok 0 (by decide) (exec_run (by simp only [exa, beq_self_eq_true, ByteArray.size, Nat.reduceAdd, Nat.reduceLeDiff, Nat.reduceEqDiff, Nat.reduceMul, Int.reduceToNat, reduceIte, Int.reduceLE, Int.reduceNeg, List.length_map, hq, decide_false]; rfl)) ?_)
        refine W.cond rfl (fun h => absurd h (by simp)) (fun _ => ?_)
        repeat (first | refine W.seq ?_ | refine W.block ?_ | refine W.skip ?_ | refine W.exit ?_ | refine W.region tab_ok 0 (by decide) (exec_run (by simp only [exa, beq_self_eq_true, ByteArray.size, Nat.reduceAdd, Nat.reduceLeDiff, Nat.reduceEqDiff, Nat.reduceMul, Int.reduceToNat, reduceIte, Int.reduceLE, Int.reduceNeg]; rfl)) ?_)
        refine W.ret ⟨.inr rfl, by rfl, ?_⟩
        simp only [Tryd.f9, resA, resOne, toT, fin, exa, beq_self_eq_true, ByteArray.size, Nat.reduceAdd, Nat.reduceLeDiff, Nat.reduceEqDiff, Nat.reduceMul, Int.reduceToNat, reduceIte, Int.reduceLE, Int.reduceNeg]
        rfl
end V
end Go.Proofs.YtcldeoolglhdoaaDoor
end
section
set_option linter.unusedVariables false
set_option linter.unusedSimpArgs false
namespace Go.Proofs.YtcldeoolglhdoaaDoor
namespace V
open Go.RowKit
def encE (p : Int × Int) : List Value := [.int .i64 p.1, .int .i64 p.2]
theorem encE_len (p : Int × Int) : (encE p).length = 2 := rfl
theorem cE_len2 {L : List (Int × Int)} : ∀ x ∈ L.map cE, x.length = 2 := fun x hx => by obtain ⟨z, -, rfl⟩ := List.mem_map.1 hx; rfl
theorem flat_cE : ∀ L : List (Int × Int), flat (L.map cE) = L.flatMap fun p => [C.int .i64 p.1, C.int .i64 p.2]
  | [] => rfl
  | z :: L => by
    have := flat_cE L
    simp only [flat, List.map_cons, List.flatten_cons, cE, List.flatMap_cons] at this ⊢
    rw [this]
def okE (p : Int × Int) : Prop := (Lit.int .i64 p.1).wf = true ∧ (Lit.int .i64 p.2).wf = true
section
variable {w : World} {I : Nat → Nat → Prop}
theorem rcs_edges : ∀ {L : List (Int × Int)} {vs : List Value}, RCs w I vs (L.flatMap fun p => [C.int .i64 p.1, C.int .i64 p.2]) → vs = L.flatMap encE ∧ ∀ p ∈ L, okE p
  | [], [], _ => ⟨rfl, fun z hz => by cases hz⟩
  | [], _ :: _, h => h.elim
  | p :: L, [], h => h.elim
  | p :: L, [v], h => by
    have h := h.2
    exact h.elim
  | p :: L, v :: u :: vs, h => by
    have h0 : RC w I v (.int .i64 p.1) := h.1
    have h1 : RC w I u (.int .i64 p.2) := h.2.1
    have h2 : RCs w I vs (L.flatMap fun p => [C.int .i64 p.1, C.int .i64 p.2]) := h.2.2
    obtain ⟨e, he⟩ := rcs_edges h2
    obtain ⟨e0, w0⟩ := RC.toInt h0
    obtain ⟨e1, w1⟩ := RC.toInt h1
    exact ⟨by rw [e0, e1, e]; rfl, fun q hq => by rcases List.mem_cons.1 hq with rfl | hq; exact ⟨w0, w1⟩; exact he q hq⟩
theorem edges_rcs : ∀ {L : List (Int × Int)}, (∀ p ∈ L, okE p) → RCs w I (L.flatMap encE) (L.flatMap fun p => [C.int .i64 p.1, C.int .i64 p.2])
  | [], _ => trivial
  | p :: L, h => ⟨.int (h p (by simp)).1, .int (h p (by simp)).2, edges_rcs fun q hq => h q (by simp [hq])⟩
end
theorem fm_len (L : List (Int × Int)) : (L.flatMap encE).length = L.length * 2 := by
  induction L with
  | nil => rfl
  | cons p L ih => rw [List.flatMap_cons, List.length_append, ih, encE_len, List.length_cons]; omega
theorem fm_at : ∀ (L : List (Int × Int)) (i j : Nat), j < 2 → (L.flatMap encE)[i * 2 + j]? = (L[i]?).bind fun p => (encE p)[j]?
  | [], i, j, _ => by simp
  | p :: L, 0, j, hj => by
    rw [List.flatMap_cons, List.getElem?_append_left (by rw [encE_len]; omega)]
    simp
  | p :: L, i + 1, j, hj => by
    rw [List.flatMap_cons, List.getElem?_append_right (by rw [encE_len]; omega), encE_len, show (i + 1) * 2 + j - 2 = i * 2 + j by omega, fm_at L i j hj]
    simp
theorem flatK_eq (L : List (Int × Int)) : Sort.flatK encE 2 L.toArray = (L.flatMap encE).toArray := by
  refine Array.ext (by rw [Sort.size_flatK, List.size_toArray, List.size_toArray, fm_len]) fun t h1 h2 => ?_
  have ht : t < L.length * 2 := by simpa using h1
  have hi : t / 2 < L.length := by omega
  have e1 := fm_at L (t / 2) (t % 2) (by omega)
  rw [show t / 2 * 2 + t % 2 = t by omega, List.getElem?_eq_getElem hi, Option.bind_some, List.getElem?_eq_getElem (by rw [fm_len]; exact ht), List.getElem?_eq_getElem (by rw [encE_len]; omega)] at e1
  have e1 := Option.some.inj e1
  have e2 := Sort.get_flatK encE 2 L.toArray t (by simpa using ht)
  rw [getElem!_pos _ t (by simpa using ht)] at e2
  rw [e2, List.getElem_toArray, e1]
  have hi' : t / 2 < L.toArray.size := by simpa using hi
  rw [getElem!_pos L.toArray (t / 2) hi']
  rw [List.getElem_toArray, getElem!_pos (encE L[t / 2]) (t % 2) (by rw [encE_len]; omega)]
theorem sortE_mut {P : Go.Program} {f g : FuncId} {F : List (Int × Int) → List (Int × Int)} (hF : ∀ L, (F L).length = L.length ∧ (∀ p, p ∈ F L → p ∈ L) ∧ F [] = []) (hen : ∀ args w, (callFunc f args).run P w = .ok (.enter f args) w)
    (hS : ∀ (blk off cap : Nat) (L : List (Int × Int)) (w : World), Sort.HoldsK encE 2 w blk off L.toArray → blk < w.heap.size → L.length < 4611686018427387904 →
      Calls P f #[.slice (some ⟨blk, off, none⟩) L.length cap, .func (.func g) #[] #[]] w fun e w' => e = .returned (.tuple #[]) ∧ ∃ n os, w' = sortWorldK encE 2 w blk off n (F L).toArray os)
    (hN : ∀ (p : Option Addr) (cap : Nat) (w : World), Calls P f #[.slice p 0 cap, .func (.func g) #[] #[]] w fun e w' => e = .returned (.tuple #[]) ∧ w' = w)
    (zs : List (Int × Int)) (hlen : zs.length < 4611686018427387904) (M : Mem) (q0 : Nat) {ty : TypeId} (hM : M q0 = some (.mrow ty 2 (zs.map cE))) :
    CallE P f [.own q0, .fn g []] M [] (.tup []) (upd M q0 (some (.mrow ty 2 ((F zs).map cE)))) := by
  have liv : ∀ j, (M j).isSome = true → (upd M q0 (some (O.mrow ty 2 ((F zs).map cE))) j).isSome = true := fun j hj => by
    unfold upd; split
    · rfl
    · exact hj
  refine ⟨hen, fun j hj => by simp [A.ids] at hj, liv, fun hw i o ho j hj => ?_, ?_⟩
  · unfold upd at ho
    split at ho
    · cases ho; simp [O.ids] at hj
    · exact liv j (hw i o ho j hj)
  intro w0 I0 B I w vals hm hv
  match vals, hv with
  | [v, u], ⟨h1, h2, _⟩ =>
    obtain ⟨hvB, -⟩ := h1
    subst hvB
    have hu : u = .func (.func g) #[] #[] := h2
    subst hu
    obtain ⟨vs, hrow, hvs, hlx, hno⟩ := hm.objs q0 _ hM
    rw [flat_cE] at hvs
    obtain ⟨rfl, hwf⟩ := rcs_edges hvs
    rw [List.length_map] at hrow
    obtain ⟨hl', hF2, hF0⟩ := hF zs
    have hwf' : ∀ z ∈ F zs, okE z := fun z hz => hwf z (hF2 z hz)
    obtain ⟨-, ho⟩ := hrow
    rcases ho with ⟨e, hn⟩ | ⟨g', off, cap, cur, e, hg, hnc, hmx, hsz, htk⟩
    · obtain rfl : zs = [] := List.length_eq_zero_iff.1 hn
      show Calls P f #[B q0, _] w _
      rw [e]
      refine (hN none 0 w).mono ?_
      rintro e' w' ⟨rfl, rfl⟩
      refine ⟨_, B, I, rfl, ?_, Ext.refl _ _, fun _ _ _ => rfl, ⟨[], rfl, trivial⟩⟩
      have : upd M q0 (some (O.mrow ty 2 ((F []).map cE))) = M := by
        funext j; unfold upd; split
        · rename_i q; subst q; rw [hM, hF0]
        · rfl
      rw [this]; exact hm
    · have hglt : g' < w.heap.size := (Array.getElem?_eq_some_iff.1 hg).1
      have hcell : ∀ j, j < zs.length * 2 → cur[off + j]? = (zs.flatMap encE)[j]? := fun j hj => by
        rw [← htk, List.getElem?_take, if_pos hj, List.getElem?_drop, Array.getElem?_toList]
      show Calls P f #[B q0, _] w _
      rw [e]
      refine (hS g' off cap zs w (fun j hj => ?_) hglt hlen).mono ?_
      · have hj : j < zs.length * 2 := by rw [Sort.size_flatK, List.size_toArray] at hj; exact hj
        rw [flatK_eq]
        have hj' : j < (zs.flatMap encE).toArray.size := by rw [List.size_toArray, fm_len]; exact hj
        refine ⟨?_, ?_⟩
        · simp only [World.cell?, hg]
          rw [hcell j hj, getElem!_pos _ j hj', List.getElem?_eq_getElem (by rw [fm_len]; exact hj)]
          rfl
        · simp [World.frozen?, hg]
      rintro e' w' ⟨rfl, n, os, rfl⟩
      unfold sortWorldK Sort.putRowK
      rw [flatK_eq]
      obtain ⟨X, hX⟩ : ∃ X, X = ((F zs).flatMap encE).toArray := ⟨_, rfl⟩
      have hXs : X.size = zs.length * 2 := by rw [hX, List.size_toArray, fm_len, hl']
      rw [← hX]
      have h1 : (Sort.putRow id (Sort.ahead w n) g' off X).heap[g']? = some (.cells (Sort.putCells id off X cur) ty (0, 0)) := by
        simp only [Sort.putRow, Sort.mapBlock, Sort.ahead, Array.getElem?_modify, if_true, hg, Option.map_some, Sort.onCells]
      have h2 : ∀ k, k ≠ g' → (Sort.putRow id (Sort.ahead w n) g' off X).heap[k]? = w.heap[k]? := fun k hk => by
        simp only [Sort.putRow, Sort.mapBlock, Sort.ahead, Array.getElem?_modify, if_neg (Ne.symm hk)]
      have hf : foot B q0 (.mrow ty 2 (zs.map cE)) g' := by show (B q0).ownBlock = some g'; rw [e]; rfl
      have hf' : ∀ k, foot B q0 (.mrow ty 2 ((F zs).map cE)) k → k = g' := fun k hk => by
        have hk : (B q0).ownBlock = some k := hk
        rw [e] at hk; cases hk; rfl
      have hIg : ∀ p, ¬ I g' p := fun p => hno g' (by rw [e]; rfl) p
      have hcs : (Sort.putCells id off X cur).size = cur.size := by simp [Sort.putCells]
      have hbig : off + zs.length * 2 ≤ cur.size := by omega
      have hput : ∀ j, j < zs.length * 2 → (Sort.putCells id off X cur)[off + j]? = X[j]? := fun j hj => by
        unfold Sort.putCells
        rw [Array.getElem?_mapIdx, Array.getElem?_eq_getElem (show off + j < cur.size by omega), Option.map_some, if_pos ⟨by omega, by omega⟩, Nat.add_sub_cancel_left, getElem!_pos X j (by omega), Array.getElem?_eq_getElem (show j < X.size by omega)]
        rfl
      obtain ⟨hm1, hE1⟩ := hm.turn (w' := Sort.putRow id (Sort.ahead w n) g' off X) (o' := .mrow ty 2 ((F zs).map cE)) hM hf hf' hIg rfl rfl rfl (by simp [Sort.putRow, Sort.mapBlock, Sort.ahead]) h2 (fun i hi => by simp [O.ids] at hi) (fun _ => by
        refine ⟨(F zs).flatMap encE, ⟨by rw [fm_len, List.length_map], ?_⟩, by rw [flat_cE]; exact edges_rcs hwf', cE_len2, fun b hb p => ?_⟩
        · refine .inr ⟨g', off, cap, _, by rw [e, List.length_map, hl'], h1, by rw [List.length_map, hl']; exact hnc, hmx, by rw [hcs]; exact hsz, ?_⟩
          refine List.ext_getElem? fun j => ?_
          rw [List.getElem?_take]
          split
          · rename_i hj
            have hj : j < zs.length * 2 := by rw [List.length_map, hl'] at hj; exact hj
            rw [List.getElem?_drop, Array.getElem?_toList, hput j hj, hX]
            simp
          · rename_i hj
            rw [List.getElem?_eq_none (by rw [fm_len]; rw [List.length_map] at hj; omega)]
        · rw [e] at hb
          have : g' = b := by simpa [Value.ownBlock] using hb
          subst this
          exact hIg p)
      have hbl : Below (Sort.putRow id (Sort.ahead w n) g' off X).heap.size (Sort.putRow id (Sort.ahead w n) g' off X) (Sort.grow (Sort.putRow id (Sort.ahead w n) g' off X) os) :=
        ⟨rfl, rfl, rfl, by simp [Sort.grow], fun k hk => by simp only [Sort.grow]; rw [Array.getElem?_append_left hk]⟩
      refine ⟨_, B, I, rfl, hm1.call hbl, hE1.trans ⟨fun _ _ k => k, fun b o k => hbl.cell (p := ⟨b, o, none⟩) (hm1.there b o k)⟩, fun _ _ _ => rfl, ⟨[], rfl, trivial⟩⟩
end V
end Go.Proofs.YtcldeoolglhdoaaDoor
end
section
set_option linter.unusedVariables false
set_option linter.unusedSimpArgs false
namespace Go.Proofs.YtcldeoolglhdoaaDoor
namespace V
open Go.RowKit G
theorem ltE (x y : Int × Int) : ltOf cmpE x y = decide (x.1 < y.1 ∨ (x.1 = y.1 ∧ x.2 < y.2)) := by
  unfold ltOf cmpE Lib.compareInt
  by_cases h1 : x.1 < y.1
  · simp [h1]
  · by_cases h2 : y.1 < x.1
    · simp [h1, h2]; omega
    · have h3 : x.1 = y.1 := by omega
      by_cases h4 : x.2 < y.2
      · simp [h3, h4]
      · by_cases h5 : y.2 < x.2 <;> simp [h3, h4, h5]
theorem swoE : Sort.SWO (ltOf cmpE) where
  irrefl x := by rw [ltE]; simp
  trans x y z h1 h2 := by rw [ltE] at *; simp at *; omega
  ntrans x y z h1 h2 := by rw [ltE] at *; simp at *; omega
def sortE (L : List (Int × Int)) : List (Int × Int) := L.mergeSort fun x y => !(ltOf cmpE) y x
theorem sortE_len (L : List (Int × Int)) : (sortE L).length = L.length := List.length_mergeSort L
theorem mem_sortE {L : List (Int × Int)} {p : Int × Int} : p ∈ sortE L ↔ p ∈ L := List.mem_mergeSort
theorem sortE_ok (L : List (Int × Int)) (hlen : L.length < 4611686018427387904) (M : Mem) (id : Nat) {ty : TypeId} (hM : M id = some (.mrow ty 2 (L.map cE))) :
    CallE Tryd.prog 41 [.own id, .fn 42 []] M [] (.tup []) (upd M id (some (.mrow ty 2 ((sortE L).map cE)))) := by
  refine sortE_mut (F := sortE) (fun L => ⟨sortE_len L, fun p hp => mem_sortE.1 hp, by simp [sortE]⟩) (enters_of Tryd.func41 (by kernel_rfl) rfl) (fun blk off cap L w h1 h2 h3 => ?_) (fun p cap w => ?_) L hlen M id hM
  · have eg : ∀ args w, (callFunc 42 args).run Tryd.prog w = .ok (.enter 42 args) w := enters_of Tryd.func42 (by kernel_rfl) rfl
    exact AnyQ.slices_SortFunc_total Tryd.laysSort41 2 Tryd.isAgg37 Tryd.sizeOf37 encE encE_len (fun x v hv => by simp [encE] at hv; rcases hv with rfl | rfl <;> rfl) cmpE swoE 42 #[] blk off cap L.toArray w eg
      (fun _ _ _ _ x y => cmpE_any x.1 x.2 y.1 y.2 _) h1 h2 (by simpa using h3) (fun x y a b => by
        rw [ltE] at a b
        simp at a b
        exact Prod.ext (by omega) (by omega))
  · exact AnyF.slices_SortFunc_none { Tryd.laysSort41 with } p cap _ w
end V
end Go.Proofs.YtcldeoolglhdoaaDoor
end
section
set_option linter.unusedVariables false
namespace Go.Proofs.YtcldeoolglhdoaaDoor
namespace D18
open G
section
variable {α : Type} [Inhabited α] [DecidableEq α]
theorem memC {zs : List α} {z : α} : z ∈ Lib.compact zs ↔ z ∈ zs := by
  have up : ∀ (m j : Nat), j < m → m ≤ zs.length → zs.toArray[j]! ∈ Lib.compactUpTo zs.toArray m := fun m j => by
    induction j with
    | zero =>
      intro h1 h2
      exact List.mem_map.2 ⟨0, List.mem_filter.2 ⟨List.mem_range.2 h1, Lib.keeps_lt_one _ 0 (by decide)⟩, rfl⟩
    | succ j ih =>
      intro h1 h2
      by_cases hk : Lib.keeps zs.toArray (j + 1) = true
      · exact List.mem_map.2 ⟨j + 1, List.mem_filter.2 ⟨List.mem_range.2 h1, hk⟩, rfl⟩
      · have : zs.toArray[j + 1]! = zs.toArray[j]! := by simpa [Lib.keeps] using hk
        rw [this]; exact ih (by omega) h2
  unfold Lib.compact
  constructor
  · intro h
    obtain ⟨j, hj, rfl⟩ := List.mem_map.1 h
    have hj := List.mem_range.1 (List.mem_filter.1 hj).1
    simp [hj]
  · intro h
    obtain ⟨j, hj⟩ := List.getElem?_of_mem h
    have hl := (List.getElem?_eq_some_iff.1 hj)
    have := up zs.length j hl.1 (Nat.le_refl _)
    obtain ⟨h1, h2⟩ := hl
    simpa [h1, h2] using this
end
theorem upC {d : Array (Int × Int)} (hs : ∀ i j, i ≤ j → j < d.size → ¬ ltZ d[j]! d[i]!) : ∀ m, m ≤ d.size → (Lib.compactUpTo d m).Pairwise ltZ ∧ ∀ x ∈ Lib.compactUpTo d m, ∃ i, i < m ∧ x = d[i]! := fun m => by
  induction m with
  | zero => intro _; exact ⟨by simp [Lib.compactUpTo], by simp [Lib.compactUpTo]⟩
  | succ m ih =>
    intro hm
    obtain ⟨h1, h2⟩ := ih (by omega)
    rw [Lib.compactUpTo_succ]
    by_cases hk : Lib.keeps d m = true
    · rw [if_pos hk]
      refine ⟨List.pairwise_append.2 ⟨h1, by simp, fun x hx y hy => ?_⟩, fun x hx => ?_⟩
      · simp at hy; subst hy
        obtain ⟨i, hi, rfl⟩ := h2 x hx
        have hne : d[m]! ≠ d[m - 1]! := by
          unfold Lib.keeps at hk
          simp only [decide_eq_true_eq] at hk
          exact hk.resolve_left (by omega)
        have a := hs (m - 1) m (by omega) (by omega)
        have b := hs i (m - 1) (by omega) (by omega)
        generalize d[m]! = z at *
        generalize d[m - 1]! = y at *
        generalize d[i]! = x at *
        obtain ⟨z1, z2⟩ := z
        obtain ⟨y1, y2⟩ := y
        obtain ⟨x1, x2⟩ := x
        simp only [ne_eq, Prod.mk.injEq, ltZ] at *
        omega
      · rcases List.mem_append.1 hx with hx | hx
        · obtain ⟨i, hi, e⟩ := h2 x hx; exact ⟨i, by omega, e⟩
        · simp at hx; exact ⟨m, by omega, hx⟩
    · rw [if_neg hk, List.append_nil]
      exact ⟨h1, fun x hx => by obtain ⟨i, hi, e⟩ := h2 x hx; exact ⟨i, by omega, e⟩⟩
theorem sortE_le (L : List (Int × Int)) : (V.sortE L).Pairwise fun x y => ¬ ltZ y x := by
  have hpw : (V.sortE L).Pairwise fun x y => (!(ltOf cmpE) y x) = true := by
    refine List.pairwise_mergeSort (fun a b c h1 h2 => ?_) (fun a b => ?_) _
    · simp only [Bool.not_eq_true'] at *
      exact V.swoE.ntrans c b a h2 h1
    · rw [V.ltE, V.ltE]
      by_cases h : b.1 < a.1 ∨ (b.1 = a.1 ∧ b.2 < a.2)
      · have : ¬ (a.1 < b.1 ∨ (a.1 = b.1 ∧ a.2 < b.2)) := by omega
        simp [this]
      · simp [h]
  refine hpw.imp fun {x y} h => ?_
  rw [V.ltE] at h
  simp at h
  intro q
  unfold ltZ at q
  omega
theorem cut_rise (O : List (Int × Int)) : (Lib.compact (V.sortE O)).Pairwise ltZ ∧ ∀ p, p ∈ Lib.compact (V.sortE O) ↔ p ∈ O := by
  refine ⟨(upC (d := (V.sortE O).toArray) (fun i j hij hj => ?_) _ (by simp)).1, fun p => memC.trans V.mem_sortE⟩
  have hj : j < (V.sortE O).length := by simpa using hj
  rcases Nat.lt_or_eq_of_le hij with h | h
  · have := List.pairwise_iff_getElem.1 (sortE_le O) i j (by omega) hj h
    simpa [hj, show i < (V.sortE O).length by omega] using this
  · subst h
    unfold ltZ; omega
theorem riseZ_ext : ∀ {l l' : List (Int × Int)}, l.Pairwise ltZ → l'.Pairwise ltZ → (∀ p, p ∈ l ↔ p ∈ l') → l = l'
  | [], [], _, _, _ => rfl
  | [], y :: l', _, _, h => by have := (h y).2 (by simp); cases this
  | x :: l, [], _, _, h => by have := (h x).1 (by simp); cases this
  | x :: l, y :: l', h1, h2, h => by
    rw [List.pairwise_cons] at h1 h2
    have e : x = y := by
      rcases List.mem_cons.1 ((h x).1 (by simp)) with e | hx
      · exact e
      · rcases List.mem_cons.1 ((h y).2 (by simp)) with e | hy
        · exact e.symm
        · have a := h1.1 y hy
          have b := h2.1 x hx
          unfold ltZ at a b
          omega
    subst e
    congr 1
    refine riseZ_ext h1.2 h2.2 fun p => ⟨fun hp => ?_, fun hp => ?_⟩
    · rcases List.mem_cons.1 ((h p).1 (List.mem_cons_of_mem _ hp)) with e | hp'
      · subst e; have := h1.1 _ hp; unfold ltZ at this; omega
      · exact hp'
    · rcases List.mem_cons.1 ((h p).2 (List.mem_cons_of_mem _ hp)) with e | hp'
      · subst e; have := h2.1 _ hp; unfold ltZ at this; omega
      · exact hp'
theorem cut_edD {code : List C17.Ins} {R : Nat} {O : List (Int × Int)} (h : ∀ p, p ∈ O ↔ p ∈ edD code R) : Lib.compact (V.sortE O) = edD code R := by
  obtain ⟨h1, h2⟩ := cut_rise O
  exact riseZ_ext h1 edD_rising fun p => (h2 p).trans (h p)
end D18
end Go.Proofs.YtcldeoolglhdoaaDoor
end
section
set_option linter.unusedVariables false
namespace Go.Proofs.YtcldeoolglhdoaaDoor
namespace D18
open C17
def exC : List Ins := [⟨1, 1, 0, 0, 0, 0, 0, 1, ⟨#[]⟩, []⟩, ⟨16, 0, 0, 0, 0, 2, 3, 0, ⟨#[]⟩, []⟩, ⟨3, 1, 0, 0, 0, 0, 0, 0, ⟨#[]⟩, []⟩, ⟨14, 0, 1, 0, 0, 0, 0, 0, ⟨#[]⟩, []⟩, ⟨19, 0, 0, 0, 0, 0, 0, 0, ⟨#[]⟩, []⟩]
def exP : Prc := ⟨⟨#[]⟩, ⟨#[]⟩, 0, 2, exC⟩
theorem ex_ok : okD exC 2 = true := by rfl
theorem g0 : rgD exC 2 0 = some 1 := rfl
theorem g1 : rgD exC 2 1 = some 0 := rfl
theorem g2 : rgD exC 2 2 = some 1 := rfl
theorem g3 : rgD exC 2 3 = none := rfl
theorem g4 : rgD exC 2 4 = some 1 := rfl
theorem g5 : rgD exC 2 5 = none := rfl
theorem g6 : rgD exC 2 6 = none := rfl
theorem d0 : dfN exC 0 = some 1 := rfl
theorem d1 : dfN exC 1 = none := rfl
theorem u0 : usN exC 0 = [] := rfl
theorem u1 : usN exC 1 = [0] := rfl
theorem u2 : usN exC 2 = [0] := rfl
theorem u3 : usN exC 3 = [1] := rfl
theorem u4 : usN exC 4 = [] := rfl
theorem n0 : nxN exC 0 = [1] := rfl
theorem n1 : nxN exC 1 = [2, 3] := rfl
theorem n2 : nxN exC 2 = [3] := rfl
theorem c0 {j : Nat} (h : Cm exC 2 0 j) : j = 0 := by
  induction h with
  | entry _ => rfl
  | next h _ => omega
  | step h1 h2 h3 ih => subst ih; exact absurd (d0.trans g0.symm) h2
theorem c10 : Cm exC 2 1 0 := .entry (by decide)
theorem c11 : Cm exC 2 1 1 := .step c10 (by rw [d0, g1]; decide) (by rw [n0]; decide)
theorem c12 : Cm exC 2 1 2 := .step c11 (by rw [d1, g1]; decide) (by rw [n1]; decide)
theorem c21 : Cm exC 2 2 1 := .next (by decide) (by rw [show 2 - 2 = 0 from rfl, n0]; decide)
theorem c23 : Cm exC 2 2 3 := .step c21 (by rw [d1, g2]; decide) (by rw [n1]; decide)
theorem c43 : Cm exC 2 4 3 := .next (by decide) (by rw [show 4 - 2 = 2 from rfl, n2]; decide)
theorem ex_ed : edD exC 2 = [(-1, 1), (-1, 2), (0, 3), (2, 3)] := by
  refine riseZ_ext edD_rising (by simp [ltZ]) fun p => ?_
  obtain ⟨a, b⟩ := p
  rw [mem_edD]
  constructor
  · rintro ⟨d, j, rfl, rfl, hd, hj, r, h1, h2, h3⟩
    have hd : d < 7 := hd
    have hj : j < 5 := hj
    obtain rfl | rfl | rfl | rfl | rfl : j = 0 ∨ j = 1 ∨ j = 2 ∨ j = 3 ∨ j = 4 := by omega
    · rw [u0] at h2; cases h2
    · rw [u1] at h2
      have : r = 0 := by simpa using h2
      subst this
      obtain rfl | rfl | rfl | rfl | rfl | rfl | rfl : d = 0 ∨ d = 1 ∨ d = 2 ∨ d = 3 ∨ d = 4 ∨ d = 5 ∨ d = 6 := by omega
      · rw [g0] at h1; cases h1
      · decide
      · rw [g2] at h1; cases h1
      · rw [g3] at h1; cases h1
      · rw [g4] at h1; cases h1
      · rw [g5] at h1; cases h1
      · rw [g6] at h1; cases h1
    · rw [u2] at h2
      have : r = 0 := by simpa using h2
      subst this
      obtain rfl | rfl | rfl | rfl | rfl | rfl | rfl : d = 0 ∨ d = 1 ∨ d = 2 ∨ d = 3 ∨ d = 4 ∨ d = 5 ∨ d = 6 := by omega
      · rw [g0] at h1; cases h1
      · decide
      · rw [g2] at h1; cases h1
      · rw [g3] at h1; cases h1
      · rw [g4] at h1; cases h1
      · rw [g5] at h1; cases h1
      · rw [g6] at h1; cases h1
    · rw [u3] at h2
      have : r = 1 := by simpa using h2
      subst this
      obtain rfl | rfl | rfl | rfl | rfl | rfl | rfl : d = 0 ∨ d = 1 ∨ d = 2 ∨ d = 3 ∨ d = 4 ∨ d = 5 ∨ d = 6 := by omega
      · have := c0 h3; omega
      · rw [g1] at h1; cases h1
      · decide
      · rw [g3] at h1; cases h1
      · decide
      · rw [g5] at h1; cases h1
      · rw [g6] at h1; cases h1
    · rw [u4] at h2; cases h2
  · intro h
    simp only [List.mem_cons, Prod.mk.injEq, List.not_mem_nil, or_false] at h
    rcases h with ⟨rfl, rfl⟩ | ⟨rfl, rfl⟩ | ⟨rfl, rfl⟩ | ⟨rfl, rfl⟩
    · exact ⟨1, 1, by decide, by decide, by decide, by decide, 0, g1, by rw [u1]; decide, c11⟩
    · exact ⟨1, 2, by decide, by decide, by decide, by decide, 0, g1, by rw [u2]; decide, c12⟩
    · exact ⟨2, 3, by decide, by decide, by decide, by decide, 1, g2, by rw [u3]; decide, c23⟩
    · exact ⟨4, 3, by decide, by decide, by decide, by decide, 1, g4, by rw [u3]; decide, c43⟩
theorem edD_len (code : List Ins) (R : Nat) : (edD code R).length ≤ (R + code.length) * code.length := preD_len _
end D18
namespace V
open C17 D18
theorem ex_uses : usesA exP = [(false, [.sl ([(-1, 1), (-1, 2), (0, 3), (2, 3)].map cE)]), (false, [.int .i64 0])] := by
  unfold usesA
  rw [if_pos (show okD exP.code exP.regs = true from ex_ok)]
  rw [show edD exP.code exP.regs.toNat = _ from ex_ed]
theorem uses_shape (p : Prc) : ∃ (L : List (Int × Int)) (e : Int), usesA p = [(false, [.sl (L.map cE)]), (false, [.int .i64 e])] ∧ L.length ≤ 24000000 := by
  unfold usesA
  cases h : okD p.code p.regs with
  | false => exact ⟨[], 110, by simp, by simp⟩
  | true =>
    have hl := okD_len h
    refine ⟨_, 0, if_pos rfl, Nat.le_trans (edD_len _ _) ?_⟩
    exact Nat.le_trans (Nat.mul_le_mul (show _ ≤ 12000 by omega) (show _ ≤ 2000 by omega)) (by decide)
end V
end Go.Proofs.YtcldeoolglhdoaaDoor
end
section
set_option linter.unusedVariables false
set_option linter.unusedSimpArgs false
namespace Go.Proofs.YtcldeoolglhdoaaDoor
namespace V
open Go.RowKit
def cW (R : Nat → Bool) (c : Nat) : List (List C) := (List.range c).map fun i => [.int .u64 (wd R i : Nat)]
theorem cW_len (R : Nat → Bool) (c : Nat) : (cW R c).length = c := by simp [cW]
theorem cW_at {R : Nat → Bool} {c i : Nat} (h : i < c) : (cW R c)[i]? = some [.int .u64 (wd R i : Nat)] := by simp [cW, h]
theorem cW_set {R : Nat → Bool} {c k : Nat} : (cW R c).set (wi k) [.int .u64 (wd (addF R k) (wi k) : Nat)] = cW (addF R k) c := by
  refine List.ext_getElem? fun i => ?_
  rw [List.getElem?_set, cW_len]
  by_cases hi : i < c
  · rw [cW_at hi, cW_at hi]
    by_cases e : wi k = i
    · subst e; rw [if_pos rfl, if_pos hi]
    · rw [if_neg e, wd_addF R k i (Ne.symm e)]
  · have h1 : (cW R c)[i]? = none := by rw [List.getElem?_eq_none]; rw [cW_len]; omega
    have h2 : (cW (addF R k) c)[i]? = none := by rw [List.getElem?_eq_none]; rw [cW_len]; omega
    rw [h1, h2]
    split
    · rw [if_neg (by omega)]
    · rfl
theorem bne_dec (x y : Int) : (x != y) = !decide (x = y) := by by_cases h : x = y <;> simp [h]
theorem cW_zero (c : Nat) : List.replicate c [C.int .u64 0] = cW (fun _ => false) c := by
  refine List.ext_getElem? fun i => ?_
  by_cases hi : i < c
  · rw [cW_at hi, wd_zero]; simp [hi]
  · rw [List.getElem?_eq_none (by simpa using hi), List.getElem?_eq_none (by rw [cW_len]; omega)]
def setO (n q : Nat) : O := .box 62 [.c (.int .i64 n), .own q]
def wordsO (n : Nat) (R : Nat → Bool) : O := .mrow 63 1 (cW R (nw n))
theorem cok_calls {P : Go.Program} {f : FuncId} {args : List A} {r : A} (hen : ∀ args w, (callFunc f args).run P w = .ok (.enter f args) w) (hr : r.ids = [])
    (h : ∀ (B : Nat → Value) (I : Nat → Nat → Prop) (w : World) (vals : List Value), GlobOk w → RVl B w I args vals → Calls P f vals.toArray w fun e w' => w' = w ∧ ∃ v, e = .returned v ∧ RV B w I r v) (m : Mem) : COk P f args m r :=
  ⟨hen, hr, fun m' _ w0 I0 B I w vals hm hv => (h B I w vals hm.globNow hv).mono (by
    rintro e w' ⟨rfl, v, rfl, hv⟩
    exact ⟨v, I, rfl, Below.refl _ _, fun _ _ k => k, fun _ _ k => .inl k, hv⟩)⟩
theorem at_ok (k : Nat) (hk : k < 1000000) (m : Mem) : COk Tryd.prog 36 [.c (.int .i64 k)] m (.tup [(false, [.int .i64 (wi k : Nat)]), (false, [.int .u64 (pw k : Nat)])]) := by
  refine cok_calls (enters_of Tryd.func36 (by kernel_rfl) rfl) rfl (fun B I w vals hG hv => ?_) m
  match vals, hv with
  | [v], ⟨h1, _⟩ =>
    obtain ⟨rfl, -⟩ := RC.toInt h1
    refine (at_any k hk w).mono ?_
    rintro e w' ⟨rfl, rfl⟩
    refine ⟨rfl, _, rfl, [_, _], rfl, ⟨_, rfl, .int ?_⟩, ⟨_, rfl, .int ?_⟩, trivial⟩
    · rw [lit_wf]; simp [IntKind.min, IntKind.max, IntKind.bits, IntKind.signed, wi]; omega
    · have := pw_lt k; rw [lit_wf]; simp [IntKind.min, IntKind.max, IntKind.bits, IntKind.signed]; omega
theorem tz_ok (x : Nat) (hx : x < 18446744073709551616) (h0 : x ≠ 0) (m : Mem) : COk Tryd.prog 39 [.c (.int .u64 x)] m (.c (.int .i64 (Lib.ctz 64 x : Nat))) := by
  refine cok_calls (enters_of Tryd.func39 (by kernel_rfl) rfl) rfl (fun B I w vals hG hv => ?_) m
  match vals, hv with
  | [v], ⟨h1, _⟩ =>
    obtain ⟨rfl, -⟩ := RC.toInt h1
    refine (tz_any x hx h0 w hG).mono ?_
    rintro e w' ⟨rfl, rfl⟩
    refine ⟨rfl, _, rfl, .int ?_⟩
    have := (ctz_bit x h0 hx).1
    rw [lit_wf]; simp [IntKind.min, IntKind.max, IntKind.bits, IntKind.signed]; omega
theorem new_ok (n : Nat) (hn : n ≤ 1000000) (M : Mem) (b : Nat) (hM : ∀ d, M (b + d) = none) : CallE Tryd.prog 18 [.c (.int .i64 n)] M [] (.ptr (b + 12) 0) (upd (upd M (b + 10) (some (wordsO n fun _ => false))) (b + 12) (some (setO n (b + 10)))) := by
  refine (ok_eff tab_ok [] Tryd.func18 (by kernel_rfl) rfl rfl (by rfl) (by rfl) ?ids ?res ?sub ?wfm (fun hWF Rr hkeep => ?_))
  case ids => intro a ha j hj; simp at ha; subst ha; simp [A.ids] at hj
  case res => intro j hj; simp [A.ids] at hj; subst hj; rw [upd_same]; rfl
  case sub => exact fun j hj => live_upd j (live_upd j hj)
  case wfm => exact fun hw => mwf_some (mwf_some hw (fun i hi => by simp [wordsO, O.ids] at hi)) (fun i hi => by simp [setO, O.ids, A.ids] at hi; subst hi; rw [upd_ne _ _ (by omega), upd_same]; rfl)
  have h1 : ¬ 1000000 < (n : Int) := by omega
  have h1' : ¬ (1000000 : Int) < n := h1
  have h2 : ¬ (n : Int) < 0 := by omega
  have h3 : IntKind.i64.wrap ((n : Int) + 63) = ((n + 63 : Nat) : Int) := by
    have := wrap_nat (k := n + 63) (by omega); simpa using this
  have h4 : ((n + 63 : Nat) : Int).tdiv 64 = ((nw n : Nat) : Int) := by
    unfold nw; rw [Int.tdiv_eq_ediv_of_nonneg (by omega)]; omega
  have h5 : IntKind.i64.wrap ((nw n : Nat) : Int) = ((nw n : Nat) : Int) := wrap_nat (by unfold nw; omega)
  have h6 : nw n * 8 ≤ 140737488355328 := by unfold nw; omega
  have h7 : ((nw n : Nat) : Int) ≤ 9223372036854775807 := by unfold nw; omega
  have hz : (Lit.int IntKind.u64 0).wf = true := by decide
  have h8 : (64 : Int) = 0 ↔ False := by decide
  have h9 : 0 < (n : Int) ∨ (n : Int) = 0 := by omega
  have e0 : (if (0 : Int) < n then (n : Int) else 0) = n := by split <;> omega
  have e1 : (if (1000000 : Int) < n then (1000000 : Int) else n) = n := by split <;> omega
  repeat (first | refine W.seq ?_ | refine W.block ?_ | refine W.skip ?_ | refine W.exit ?_ | refine W.region tab_ok b (by decide) (exec_run (by simp only [exa, beq_self_eq_true, ByteArray.size, Nat.reduceAdd, Nat.reduceLeDiff, Nat.reduceEqDiff, Nat.reduceMul, Int.reduceToNat, reduceIte, Int.reduceLE, Int.reduceNeg, h1, h2, h3, h4, h5, h6, h7, h8, e0, e1, hM, Int.toNat_natCast, and_self, Nat.add_left_cancel_iff, hz, Bool.false_eq_true]; rfl)) ?_)
  refine W.ret ⟨.inr rfl, by rfl, ?_, ?mle⟩
  simp only [Tryd.f18, resE, resOne, fin, toT, exa, beq_self_eq_true, ByteArray.size, Nat.reduceAdd, Nat.reduceLeDiff, Nat.reduceEqDiff, Nat.reduceMul, Int.reduceToNat, reduceIte, Int.reduceLE, Int.reduceNeg]
  case mle =>
    refine mle_refl' ?_
    rw [cW_zero]; rfl
theorem has_ok (n : Nat) (hn : n ≤ 1000000) (R : Nat → Bool) (k : Nat) (M : Mem) (b p q : Nat) (hM : ∀ d, M (b + d) = none) (hp : M p = some (setO n q)) (hq : M q = some (wordsO n R)) :
    CallE Tryd.prog 35 [.ptr p 0, .c (.int .i64 k)] M [] (.c (.bool (decide (k < n) && R k))) M := by
  refine (ok_eff tab_ok [] Tryd.func35 (by kernel_rfl) rfl rfl (by rfl) (by rfl) ?ids ?res ?sub ?wfm (fun hWF Rr hkeep => ?_))
  case ids => intro a ha j hj; simp at ha; rcases ha with rfl | rfl <;> simp [A.ids] at hj; subst hj; simp [hp]
  case res => intro j hj; simp [A.ids] at hj
  case sub => exact fun j hj => hj
  case wfm => exact fun hw => hw
  have h0 : ¬ (k : Int) < 0 := by omega
  by_cases hk : n ≤ k
  · repeat (first | refine W.seq ?_ | refine W.block ?_ | refine W.skip ?_ | refine W.exit ?_ | refine W.region tab_ok b (by decide) (exec_run (by simp only [exa, beq_self_eq_true, ByteArray.size, Nat.reduceAdd, Nat.reduceLeDiff, Nat.reduceEqDiff, Nat.reduceMul, Int.reduceToNat, reduceIte, Int.reduceLE, Int.reduceNeg, h0, hp, setO, hk, Int.ofNat_le]; rfl)) ?_)
    refine W.cond rfl ?_ ?_
    · intro _
      repeat (first | refine W.seq ?_ | refine W.block ?_ | refine W.skip ?_ | refine W.exit ?_ | refine W.region tab_ok b (by decide) (exec_run (by simp only [exa, beq_self_eq_true, ByteArray.size, Nat.reduceAdd, Nat.reduceLeDiff, Nat.reduceEqDiff, Nat.reduceMul, Int.reduceToNat, reduceIte, Int.reduceLE, Int.reduceNeg]; rfl)) ?_)
      refine W.ret ⟨.inr rfl, by rfl, ?_, ?mle⟩
      simp only [Tryd.f35, resE, resOne, fin, toT, exa, beq_self_eq_true, ByteArray.size, Nat.reduceAdd, Nat.reduceLeDiff, Nat.reduceEqDiff, Nat.reduceMul, Int.reduceToNat, reduceIte, Int.reduceLE, Int.reduceNeg]
      case mle => exact mle_refl _
      simp only [show ¬ k < n by omega, decide_false, Bool.false_and]
    · intro h; cases h
  · have hkn : k < n := by omega
    have hw := wi_lt hkn
    repeat (first | refine W.seq ?_ | refine W.block ?_ | refine W.skip ?_ | refine W.exit ?_ | refine W.region tab_ok b (by decide) (exec_run (by simp only [exa, beq_self_eq_true, ByteArray.size, Nat.reduceAdd, Nat.reduceLeDiff, Nat.reduceEqDiff, Nat.reduceMul, Int.reduceToNat, reduceIte, Int.reduceLE, Int.reduceNeg, h0, hp, setO, hk, Int.ofNat_le]; rfl)) ?_)
    refine W.cond rfl ?_ ?_
    · intro h; cases h
    · intro _
      repeat (first | refine W.seq ?_ | refine W.block ?_ | refine W.skip ?_ | refine W.exit ?_ | refine W.region tab_ok b (by decide) (exec_run (by simp only [exa, beq_self_eq_true, ByteArray.size, Nat.reduceAdd, Nat.reduceLeDiff, Nat.reduceEqDiff, Nat.reduceMul, Int.reduceToNat, reduceIte, Int.reduceLE, Int.reduceNeg]; rfl)) ?_)
      refine W.regionK tab_ok b (by decide) ?_
      refine runk_split 1 (by simp only [exa, beq_self_eq_true, ByteArray.size, Nat.reduceAdd, Nat.reduceLeDiff, Nat.reduceEqDiff, Nat.reduceMul, Int.reduceToNat, reduceIte, Int.reduceLE, Int.reduceNeg]; rfl) ?_
      refine runk_call rfl rfl rfl rfl rfl (by simp) (cvs_cons cv_refl cvs_nil) (at_ok k (by omega) _) ?_
      refine runk_exec (by simp only [exa, beq_self_eq_true, ByteArray.size, Nat.reduceAdd, Nat.reduceLeDiff, Nat.reduceEqDiff, Nat.reduceMul, Int.reduceToNat, reduceIte, Int.reduceLE, Int.reduceNeg]; rfl) ?_
      repeat (first | refine W.seq ?_ | refine W.block ?_ | refine W.skip ?_ | refine W.exit ?_ | refine W.region tab_ok b (by decide) (exec_run (by simp only [exa, beq_self_eq_true, ByteArray.size, Nat.reduceAdd, Nat.reduceLeDiff, Nat.reduceEqDiff, Nat.reduceMul, Int.reduceToNat, reduceIte, Int.reduceLE, Int.reduceNeg, hp, hq, setO, wordsO, cW_len, cW_at hw, hw, Int.toNat_natCast, and_self]; rfl)) ?_)
      refine W.ret ⟨.inr rfl, by rfl, ?_, ?mle⟩
      simp only [Tryd.f35, resE, resOne, fin, toT, exa, beq_self_eq_true, ByteArray.size, Nat.reduceAdd, Nat.reduceLeDiff, Nat.reduceEqDiff, Nat.reduceMul, Int.reduceToNat, reduceIte, Int.reduceLE, Int.reduceNeg]
      case mle => exact mle_refl _
      simp only [hkn, decide_true, Bool.true_and]
      rw [← and_pw R k, bne_dec]
      rfl
theorem add_ok (n : Nat) (hn : n ≤ 1000000) (R : Nat → Bool) (k : Nat) (M : Mem) (b p q : Nat) (hM : ∀ d, M (b + d) = none) (hp : M p = some (setO n q)) (hq : M q = some (wordsO n R)) :
    CallE Tryd.prog 19 [.ptr p 0, .c (.int .i64 k)] M [] (.c (.bool (decide (k < n) && !R k))) (if k < n ∧ R k = false then upd M q (some (wordsO n (addF R k))) else M) := by
  by_cases hk : n ≤ k
  · rw [if_neg (by omega)]
    refine (ok_eff tab_ok [] Tryd.func19 (by kernel_rfl) rfl rfl (by rfl) (by rfl) ?ids ?res ?sub ?wfm (fun hWF Rr hkeep => ?_))
    case ids => intro a ha j hj; simp at ha; rcases ha with rfl | rfl <;> simp [A.ids] at hj; subst hj; simp [hp]
    case res => intro j hj; simp [A.ids] at hj
    case sub => exact fun j hj => hj
    case wfm => exact fun hw => hw
    have h0 : ¬ (k : Int) < 0 := by omega
    repeat (first | refine W.seq ?_ | refine W.block ?_ | refine W.skip ?_ | refine W.exit ?_ | refine W.region tab_ok b (by decide) (exec_run (by simp only [exa, beq_self_eq_true, ByteArray.size, Nat.reduceAdd, Nat.reduceLeDiff, Nat.reduceEqDiff, Nat.reduceMul, Int.reduceToNat, reduceIte, Int.reduceLE, Int.reduceNeg, h0, hp, setO, hk, Int.ofNat_le]; rfl)) ?_)
    refine W.cond rfl ?_ ?_
    · intro _
      repeat (first | refine W.seq ?_ | refine W.block ?_ | refine W.skip ?_ | refine W.exit ?_ | refine W.region tab_ok b (by decide) (exec_run (by simp only [exa, beq_self_eq_true, ByteArray.size, Nat.reduceAdd, Nat.reduceLeDiff, Nat.reduceEqDiff, Nat.reduceMul, Int.reduceToNat, reduceIte, Int.reduceLE, Int.reduceNeg]; rfl)) ?_)
      refine W.ret ⟨.inr rfl, by rfl, ?_, ?mle⟩
      simp only [Tryd.f19, resE, resOne, fin, toT, exa, beq_self_eq_true, ByteArray.size, Nat.reduceAdd, Nat.reduceLeDiff, Nat.reduceEqDiff, Nat.reduceMul, Int.reduceToNat, reduceIte, Int.reduceLE, Int.reduceNeg]
      case mle => exact mle_refl _
      simp only [show ¬ k < n by omega, decide_false, Bool.false_and]
    · intro h; cases h
  · have hkn : k < n := by omega
    have hw := wi_lt hkn
    have h0 : ¬ (k : Int) < 0 := by omega
    cases hR : R k with
    | true =>
      rw [if_neg (by simp)]
      refine (ok_eff tab_ok [] Tryd.func19 (by kernel_rfl) rfl rfl (by rfl) (by rfl) ?ids ?res ?sub ?wfm (fun hWF Rr hkeep => ?_))
      case ids => intro a ha j hj; simp at ha; rcases ha with rfl | rfl <;> simp [A.ids] at hj; subst hj; simp [hp]
      case res => intro j hj; simp [A.ids] at hj
      case sub => exact fun j hj => hj
      case wfm => exact fun hw => hw
      repeat (first | refine W.seq ?_ | refine W.block ?_ | refine W.skip ?_ | refine W.exit ?_ | refine W.region tab_ok b (by decide) (exec_run (by simp only [exa, beq_self_eq_true, ByteArray.size, Nat.reduceAdd, Nat.reduceLeDiff, Nat.reduceEqDiff, Nat.reduceMul, Int.reduceToNat, reduceIte, Int.reduceLE, Int.reduceNeg]; rfl)) ?_)
      refine W.regionK tab_ok b (by decide) ?_
      refine runk_split 13 (by simp only [exa, beq_self_eq_true, ByteArray.size, Nat.reduceAdd, Nat.reduceLeDiff, Nat.reduceEqDiff, Nat.reduceMul, Int.reduceToNat, reduceIte, Int.reduceLE, Int.reduceNeg, h0, hp, setO, hk, Int.ofNat_le]; rfl) ?_
      refine runk_callE (D := []) rfl rfl rfl rfl rfl (fun j hj => by simp at hj) (by simp) (cvs_cons cv_refl (cvs_cons cv_refl cvs_nil)) (has_ok n hn R k M (b + 100) p q (base_more hM 100) hp hq) ?_
      simp only [killL, putS, upd_upd]
      refine runk_exec (by simp only [exa, beq_self_eq_true, ByteArray.size, Nat.reduceAdd, Nat.reduceLeDiff, Nat.reduceEqDiff, Nat.reduceMul, Int.reduceToNat, reduceIte, Int.reduceLE, Int.reduceNeg, h0, hk, hR, hkn]; rfl) ?_
      refine W.cond rfl ?_ ?_
      · intro _
        repeat (first | refine W.seq ?_ | refine W.block ?_ | refine W.skip ?_ | refine W.exit ?_ | refine W.region tab_ok b (by decide) (exec_run (by simp only [exa, beq_self_eq_true, ByteArray.size, Nat.reduceAdd, Nat.reduceLeDiff, Nat.reduceEqDiff, Nat.reduceMul, Int.reduceToNat, reduceIte, Int.reduceLE, Int.reduceNeg]; rfl)) ?_)
        refine W.ret ⟨.inr rfl, by rfl, ?_, ?mle⟩
        simp only [Tryd.f19, resE, resOne, fin, toT, exa, beq_self_eq_true, ByteArray.size, Nat.reduceAdd, Nat.reduceLeDiff, Nat.reduceEqDiff, Nat.reduceMul, Int.reduceToNat, reduceIte, Int.reduceLE, Int.reduceNeg]
        case mle => exact mle_refl _
        simp
      · intro h; cases h
    | false =>
      rw [if_pos ⟨hkn, rfl⟩]
      refine (ok_eff tab_ok [] Tryd.func19 (by kernel_rfl) rfl rfl (by rfl) (by rfl) ?ids ?res ?sub ?wfm (fun hWF Rr hkeep => ?_))
      case ids => intro a ha j hj; simp at ha; rcases ha with rfl | rfl <;> simp [A.ids] at hj; subst hj; simp [hp]
      case res => intro j hj; simp [A.ids] at hj
      case sub => exact fun j hj => live_upd j hj
      case wfm => exact fun hw => mwf_some hw (fun i hi => by simp [wordsO, O.ids] at hi)
      repeat (first | refine W.seq ?_ | refine W.block ?_ | refine W.skip ?_ | refine W.exit ?_ | refine W.region tab_ok b (by decide) (exec_run (by simp only [exa, beq_self_eq_true, ByteArray.size, Nat.reduceAdd, Nat.reduceLeDiff, Nat.reduceEqDiff, Nat.reduceMul, Int.reduceToNat, reduceIte, Int.reduceLE, Int.reduceNeg]; rfl)) ?_)
      refine W.regionK tab_ok b (by decide) ?_
      refine runk_split 13 (by simp only [exa, beq_self_eq_true, ByteArray.size, Nat.reduceAdd, Nat.reduceLeDiff, Nat.reduceEqDiff, Nat.reduceMul, Int.reduceToNat, reduceIte, Int.reduceLE, Int.reduceNeg, h0, hp, setO, hk, Int.ofNat_le]; rfl) ?_
      refine runk_callE (D := []) rfl rfl rfl rfl rfl (fun j hj => by simp at hj) (by simp) (cvs_cons cv_refl (cvs_cons cv_refl cvs_nil)) (has_ok n hn R k M (b + 100) p q (base_more hM 100) hp hq) ?_
      simp only [killL, putS, upd_upd]
      refine runk_exec (by simp only [exa, beq_self_eq_true, ByteArray.size, Nat.reduceAdd, Nat.reduceLeDiff, Nat.reduceEqDiff, Nat.reduceMul, Int.reduceToNat, reduceIte, Int.reduceLE, Int.reduceNeg, h0, hk, hR, hkn]; rfl) ?_
      refine W.cond rfl ?_ ?_
      · intro h; cases h
      · intro _
        repeat (first | refine W.seq ?_ | refine W.block ?_ | refine W.skip ?_ | refine W.exit ?_ | refine W.region tab_ok b (by decide) (exec_run (by simp only [exa, beq_self_eq_true, ByteArray.size, Nat.reduceAdd, Nat.reduceLeDiff, Nat.reduceEqDiff, Nat.reduceMul, Int.reduceToNat, reduceIte, Int.reduceLE, Int.reduceNeg]; rfl)) ?_)
        refine W.regionK tab_ok b (by decide) ?_
        refine runk_split 1 (by simp only [exa, beq_self_eq_true, ByteArray.size, Nat.reduceAdd, Nat.reduceLeDiff, Nat.reduceEqDiff, Nat.reduceMul, Int.reduceToNat, reduceIte, Int.reduceLE, Int.reduceNeg]; rfl) ?_
        refine runk_call rfl rfl rfl rfl rfl (by simp) (cvs_cons cv_refl cvs_nil) (at_ok k (by omega) _) ?_
        refine runk_exec (by simp only [exa, beq_self_eq_true, ByteArray.size, Nat.reduceAdd, Nat.reduceLeDiff, Nat.reduceEqDiff, Nat.reduceMul, Int.reduceToNat, reduceIte, Int.reduceLE, Int.reduceNeg]; rfl) ?_
        repeat (first | refine W.seq ?_ | refine W.block ?_ | refine W.skip ?_ | refine W.exit ?_ | refine W.region tab_ok b (by decide) (exec_run (by simp only [exa, beq_self_eq_true, ByteArray.size, Nat.reduceAdd, Nat.reduceLeDiff, Nat.reduceEqDiff, Nat.reduceMul, Int.reduceToNat, reduceIte, Int.reduceLE, Int.reduceNeg, hp, hq, setO, wordsO, cW_len, cW_at hw, hw, Int.toNat_natCast, and_self]; rfl)) ?_)
        refine W.ret ⟨.inr rfl, by rfl, ?_, ?mle⟩
        simp only [Tryd.f19, resE, resOne, fin, toT, exa, beq_self_eq_true, ByteArray.size, Nat.reduceAdd, Nat.reduceLeDiff, Nat.reduceEqDiff, Nat.reduceMul, Int.reduceToNat, reduceIte, Int.reduceLE, Int.reduceNeg]
        case mle =>
          refine mle_refl' ?_
          have h := or_pw R k
          change IntKind.u64.wrap _ = _ at h
          refine congrArg (fun z => upd M q (some (O.mrow 63 1 z))) ?_
          rw [← cW_set]
          refine congrArg (fun z => (cW R (nw n)).set (wi k) [C.int .u64 z]) ?_
          exact h
        simp [hkn]
theorem list_ok (n : Nat) (hn : n ≤ 1000000) (R : Nat → Bool) (hR : ∀ i, R i = true → i < n) (M : Mem) (b p q : Nat) (hM : ∀ d, M (b + d) = none) (hp : M p = some (setO n q)) (hq : M q = some (wordsO n R)) :
    CallE Tryd.prog 24 [.ptr p 0] M [] (.c (.sl ((elems R n).map cN))) M := by
  have HE : elems R (64 * nw n) = elems R n := elems_top R n _ hR (by unfold nw; omega)
  have hnw := nw_le hn
  refine (ok_eff tab_ok [] Tryd.func24 (by kernel_rfl) rfl rfl (by rfl) (by rfl) ?ids ?res ?sub ?wfm (fun hWF Rr hkeep => ?_))
  case ids => intro a ha j hj; simp at ha; subst ha; simp [A.ids] at hj; subst hj; simp [hp]
  case res => intro j hj; simp [A.ids] at hj
  case sub => exact fun j hj => hj
  case wfm => exact fun hw => hw
  have hM5 : M (b + 500) = none := hM 500
  have nk : ¬ Rr.keep (b + 500) := by rw [hkeep]; show ¬ ((M (b + 500)).isSome = true ∧ _); rw [hM5]; exact fun h => absurd h.1 (by simp)
  have kept : ∀ x, ∀ j, Rr.keep j → ((upd M (b + 500) (some x)) j).isSome = true := fun x j hj => by rw [hkeep] at hj; exact live_upd j hj.1
  have hqb : (q = b + 500) = False := base_ne hM hq 500
  have hpb : (p = b + 500) = False := base_ne hM hp 500
  repeat (first | refine W.seq ?_ | refine W.block ?_ | refine W.skip ?_ | refine W.exit ?_ | refine W.region tab_ok b (by decide) (exec_run (by simp only [exa, beq_self_eq_true, ByteArray.size, Nat.reduceAdd, Nat.reduceLeDiff, Nat.reduceEqDiff, Nat.reduceMul, Int.reduceToNat, reduceIte, Int.reduceLE, Int.reduceNeg, hp, hq, setO, wordsO, cW_len]; rfl)) ?_)
  refine W.newArr 2 (b + 500) 3 1 rfl hM5 ?_
  refine W.loop (ι := Nat) (fun k => ⟨upd (upd (upd (upd (fun _ => .top) 2 (.own (b + 500))) 8 (.own q)) 9 (.c (.int .i64 (nw n)))) 10 (.c (.int .i64 k)), upd M (b + 500) (some (.arr 3 1 ((elems R (64 * k)).map cN)))⟩) (fun k => k ≤ nw n) (fun k => nw n - k) 0 ?start (Nat.zero_le _) ?round
  case start =>
    refine le_mk ?sle ?mle ?swf ?mwf (kept _) (by rfl)
    case swf => repeat (first | exact swf_top _ | refine swf_upd ?_ (by simp [A.ids, upd_app, hqb, hq]))
    case mwf => exact mwf_some hWF (fun i hi => by simp [O.ids] at hi)
    case sle => repeat (first | exact sle_top _ | exact sle_refl _ | refine sle_upd ?_ (by first | rfl | (simp only [upd_app, killS_app, A.kill, entry_zero, entry_succ, Nat.reduceEqDiff, reduceIte]; done)))
    case mle => exact mle_refl' rfl
  case round =>
    intro k hk
    repeat (first | refine W.seq ?_ | refine W.block ?_ | refine W.skip ?_ | refine W.exit ?_ | refine W.region tab_ok b (by decide) (exec_run (by simp only [exa, beq_self_eq_true, ByteArray.size, Nat.reduceAdd, Nat.reduceLeDiff, Nat.reduceEqDiff, Nat.reduceMul, Int.reduceToNat, reduceIte, Int.reduceLE, Int.reduceNeg]; rfl)) ?_)
    refine W.cond rfl ?_ ?_
    · intro hlt
      simp only [decide_eq_true_eq, Int.ofNat_lt] at hlt
      repeat (first | refine W.seq ?_ | refine W.block ?_ | refine W.skip ?_ | refine W.exit ?_ | refine W.region tab_ok b (by decide) (exec_run (by simp only [exa, beq_self_eq_true, ByteArray.size, Nat.reduceAdd, Nat.reduceLeDiff, Nat.reduceEqDiff, Nat.reduceMul, Int.reduceToNat, reduceIte, Int.reduceLE, Int.reduceNeg, hqb, hq, wordsO, cW_len, cW_at hlt, hlt, Int.toNat_natCast, and_self]; rfl)) ?_)
      refine W.loop (ι := Nat × List Nat) (fun i => ⟨upd (upd (upd (upd (upd (upd (fun _ => .top) 2 (.own (b + 500))) 8 (.own q)) 9 (.c (.int .i64 (nw n)))) 10 (.c (.int .i64 k))) 3 (.c (.int .i64 k))) 4 (.c (.int .u64 (i.1 : Nat))), upd M (b + 500) (some (.arr 3 1 (i.2.map cN)))⟩)
        (fun i => i.1 < 18446744073709551616 ∧ elems R (64 * (k + 1)) = i.2 ++ (bitsOf i.1).map (64 * k + ·)) (fun i => i.1) (wd R k, elems R (64 * k)) ?start2 ⟨wd_lt R k, elems_word R k⟩ ?round2
      case start2 =>
        refine le_mk ?sle ?mle ?swf ?mwf (kept _) (by rfl)
        case swf => repeat (first | exact swf_top _ | refine swf_upd ?_ (by simp [A.ids, upd_app, hqb, hq]))
        case mwf => exact mwf_some hWF (fun i hi => by simp [O.ids] at hi)
        case sle => repeat (first | exact sle_top _ | exact sle_refl _ | refine sle_upd ?_ (by first | rfl | (simp only [upd_app, killS_app, A.kill, entry_zero, entry_succ, Nat.reduceEqDiff, reduceIte]; done)))
        case mle => exact mle_refl' rfl
      case round2 =>
        rintro ⟨x, l⟩ ⟨hx, hl⟩
        simp only at hx hl
        by_cases h0 : x = 0
        · subst h0
          repeat (first | refine W.seq ?_ | refine W.block ?_ | refine W.skip ?_ | refine W.exit ?_ | refine W.region tab_ok b (by decide) (exec_run (by simp only [exa, beq_self_eq_true, ByteArray.size, Nat.reduceAdd, Nat.reduceLeDiff, Nat.reduceEqDiff, Nat.reduceMul, Int.reduceToNat, reduceIte, Int.reduceLE, Int.reduceNeg]; rfl)) ?_)
          refine W.cond rfl ?_ ?_
          · intro h; simp at h
          · intro _
            repeat (first | refine W.seq ?_ | refine W.block ?_ | refine W.skip ?_ | refine W.exit ?_ | refine W.region tab_ok b (by decide) (exec_run (by simp only [exa, beq_self_eq_true, ByteArray.size, Nat.reduceAdd, Nat.reduceLeDiff, Nat.reduceEqDiff, Nat.reduceMul, Int.reduceToNat, reduceIte, Int.reduceLE, Int.reduceNeg]; rfl)) ?_)
            rw [bitsOf_zero, List.map_nil, List.append_nil] at hl
            refine ⟨k + 1, hlt, by omega, ?_⟩
            rw [hl]
            refine le_mk ?sle ?mle ?swf ?mwf (kept _) (by rfl)
            case swf => repeat (first | exact swf_top _ | refine swf_upd ?_ (by simp [A.ids, upd_app, hqb, hq]))
            case mwf => exact mwf_some hWF (fun i hi => by simp [O.ids] at hi)
            case sle => repeat (first | exact sle_top _ | exact sle_refl _ | refine sle_upd ?_ (by first | rfl | (simp only [upd_app, killS_app, A.kill, entry_zero, entry_succ, Nat.reduceEqDiff, reduceIte, wrap_succ (show k + 1 < 9223372036854775808 by omega)]; done)))
            case mle => exact mle_refl' rfl
        · have h0' : ((x : Nat) : Int) = 0 ↔ False := ⟨fun h => h0 (by omega), False.elim⟩
          have hct := (ctz_bit x h0 hx).1
          have hsh : ((2 : Int) ^ min 6 IntKind.i64.bits) = 64 := by decide
          have hbl : (elems R (64 * (k + 1))).length ≤ 64 * (k + 1) := elems_len _ _
          repeat (first | refine W.seq ?_ | refine W.block ?_ | refine W.skip ?_ | refine W.exit ?_ | refine W.region tab_ok b (by decide) (exec_run (by simp only [exa, beq_self_eq_true, ByteArray.size, Nat.reduceAdd, Nat.reduceLeDiff, Nat.reduceEqDiff, Nat.reduceMul, Int.reduceToNat, reduceIte, Int.reduceLE, Int.reduceNeg]; rfl)) ?_)
          refine W.cond rfl ?_ ?_
          · intro _
            repeat (first | refine W.seq ?_ | refine W.block ?_ | refine W.skip ?_ | refine W.exit ?_ | refine W.region tab_ok b (by decide) (exec_run (by simp only [exa, beq_self_eq_true, ByteArray.size, Nat.reduceAdd, Nat.reduceLeDiff, Nat.reduceEqDiff, Nat.reduceMul, Int.reduceToNat, reduceIte, Int.reduceLE, Int.reduceNeg]; rfl)) ?_)
            refine W.regionK tab_ok b (by decide) ?_
            refine runk_split 4 (by simp only [exa, beq_self_eq_true, ByteArray.size, Nat.reduceAdd, Nat.reduceLeDiff, Nat.reduceEqDiff, Nat.reduceMul, Int.reduceToNat, reduceIte, Int.reduceLE, Int.reduceNeg]; rfl) ?_
            refine runk_call rfl rfl rfl rfl rfl (by simp) (cvs_cons cv_refl cvs_nil) (tz_ok x hx h0 _) ?_
            have e1 : IntKind.i64.wrap ((k : Int) * 2 ^ min 6 IntKind.i64.bits) = ((64 * k : Nat) : Int) := by
              rw [hsh]
              have := wrap_nat (k := 64 * k) (by omega)
              rw [← this]; congr 1; omega
            have e2 : IntKind.i64.wrap (((64 * k : Nat) : Int) + (Lib.ctz 64 x : Nat)) = ((64 * k + Lib.ctz 64 x : Nat) : Int) := by
              have := wrap_nat (k := 64 * k + Lib.ctz 64 x) (by omega)
              rw [← this]; congr 1
            have e6 : ¬ ((6 : Int) < 0) := by decide
            have hll : l.length ≤ 64 * (k + 1) := by rw [hl, List.length_append] at hbl; omega
            refine runk_split 2 (by simp only [exa, beq_self_eq_true, ByteArray.size, Nat.reduceAdd, Nat.reduceLeDiff, Nat.reduceEqDiff, Nat.reduceMul, Int.reduceToNat, reduceIte, Int.reduceLE, Int.reduceNeg, e1, e2, e6]; rfl) ?_
            refine runk_append tab_ok (b + 500) rfl rfl rfl rfl rfl rfl (by simp only [exa, beq_self_eq_true, ByteArray.size, Nat.reduceAdd, Nat.reduceLeDiff, Nat.reduceEqDiff, Nat.reduceMul, Int.reduceToNat, reduceIte, Int.reduceLE, Int.reduceNeg, e1, e2, e6]) (by simp only [exa, beq_self_eq_true, ByteArray.size, Nat.reduceAdd, Nat.reduceLeDiff, Nat.reduceEqDiff, Nat.reduceMul, Int.reduceToNat, reduceIte, Int.reduceLE, Int.reduceNeg, e1, e2, e6]; rfl) (by first | rfl | (simp only [exa, beq_self_eq_true, ByteArray.size, Nat.reduceAdd, Nat.reduceLeDiff, Nat.reduceEqDiff, Nat.reduceMul, Int.reduceToNat, reduceIte, Int.reduceLE, Int.reduceNeg, e1, e2, e6]; rfl)) rfl rfl rfl rfl nk (fun z hz => by simp at hz; subst hz; rfl) (by simp only [List.length_map, List.length_cons, List.length_nil]; omega) (by decide) ?_
            refine runk_exec (by simp only [exa, beq_self_eq_true, ByteArray.size, Nat.reduceAdd, Nat.reduceLeDiff, Nat.reduceEqDiff, Nat.reduceMul, Int.reduceToNat, reduceIte, Int.reduceLE, Int.reduceNeg]; rfl) ?_
            rw [kill_own hWF hM5]
            repeat (first | refine W.seq ?_ | refine W.block ?_ | refine W.skip ?_ | refine W.exit ?_ | refine W.region tab_ok b (by decide) (exec_run (by simp only [exa, beq_self_eq_true, ByteArray.size, Nat.reduceAdd, Nat.reduceLeDiff, Nat.reduceEqDiff, Nat.reduceMul, Int.reduceToNat, reduceIte, Int.reduceLE, Int.reduceNeg]; rfl)) ?_)
            have e3 : IntKind.u64.wrap ((x : Int) - 1) = ((x - 1 : Nat) : Int) := by rw [IntKind.wrap_u64]; omega
            have e4 : IntKind.u64.wrap ((BitVec.ofInt IntKind.u64.bits (x : Int) &&& BitVec.ofInt IntKind.u64.bits (IntKind.u64.wrap ((x : Int) - 1))).toNat : Int) = ((dropLow x : Nat) : Int) := by
              rw [e3]; exact bits_and_u64_nat x (x - 1) hx (by omega)
            refine ⟨(dropLow x, l ++ [64 * k + Lib.ctz 64 x]), ⟨Nat.lt_trans (dropLow_lt x h0) hx, ?_⟩, dropLow_lt x h0, ?_⟩
            · rw [hl, bitsOf_step x h0 hx]; simp
            refine le_mk ?sle ?mle ?swf ?mwf (kept _) (by rfl)
            case swf => repeat (first | exact swf_top _ | refine swf_upd ?_ (by simp [A.ids, upd_app, hqb, hq]))
            case mwf => exact mwf_some hWF (fun i hi => by simp [O.ids] at hi)
            case sle => repeat (first | exact sle_top _ | exact sle_refl _ | refine sle_upd ?_ (by first | rfl | (simp only [upd_app, killS_app, A.kill, entry_zero, entry_succ, Nat.reduceEqDiff, reduceIte, e4, hqb]; done)))
            case mle => exact mle_refl' (by simp only [e1, e2, List.map_append, List.map_cons, List.map_nil, cN])
          · intro h; simp [h0] at h
    · intro hge
      simp only [decide_eq_false_iff_not, Int.ofNat_lt] at hge
      obtain rfl : k = nw n := by omega
      repeat (first | refine W.seq ?_ | refine W.block ?_ | refine W.skip ?_ | refine W.exit ?_ | refine W.region tab_ok b (by decide) (exec_run (by simp only [exa, beq_self_eq_true, ByteArray.size, Nat.reduceAdd, Nat.reduceLeDiff, Nat.reduceEqDiff, Nat.reduceMul, Int.reduceToNat, reduceIte, Int.reduceLE, Int.reduceNeg]; rfl)) ?_)
      rw [HE]
      refine W.asData 2 (by simp only [exa, beq_self_eq_true, ByteArray.size, Nat.reduceAdd, Nat.reduceLeDiff, Nat.reduceEqDiff, Nat.reduceMul, Int.reduceToNat, reduceIte, Int.reduceLE, Int.reduceNeg]; rfl) ?_ (by decide)
      refine W.ret ⟨.inr rfl, by rfl, ?_, ?mle⟩
      simp only [Tryd.f24, resE, resOne, fin, toT, exa, beq_self_eq_true, ByteArray.size, Nat.reduceAdd, Nat.reduceLeDiff, Nat.reduceEqDiff, Nat.reduceMul, Int.reduceToNat, reduceIte, Int.reduceLE, Int.reduceNeg]
      case mle => exact mle_skip (mle_refl _) hM5
end V
end Go.Proofs.YtcldeoolglhdoaaDoor
end
