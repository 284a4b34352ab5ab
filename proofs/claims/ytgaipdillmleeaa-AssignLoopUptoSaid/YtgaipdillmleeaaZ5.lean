/- Joined by my own program, in build order: RB, Jn, Meet, Run, RP, GrowE, Cat, Vfam, Vs, Vtree, Vpor, Vnp, Step, RR. -/
import Derived.Test.YtgaipdillmleeaaZ4
import Derived.Lib.Walk
import Derived.Lib.SliceRun
import Derived.Lib.AppendZerosOnto
import Derived.Test.YtgaipdillmleeaaZ1
import Derived.Sort.LoopGhostIn
set_option linter.unusedVariables false
set_option linter.unusedSimpArgs false
section
/- The document's without and both walked. -/
set_option linter.unusedVariables false
set_option linter.unusedSimpArgs false
namespace Go.Proofs.Ytgaipdillmleeaa
namespace V
open Go.RowKit AS
theorem take_filter {L : List Nm} {p : Nm → Bool} {k : Nat} {x : Nm} (hx : L[k]? = some x) : (L.take (k + 1)).filter p = (L.take k).filter p ++ (if p x = true then [x] else []) := by
  rw [List.take_add_one, hx, List.filter_append]
  congr 1
  simp only [Option.toList, List.filter_cons, List.filter_nil]
theorem filt_len {L : List Nm} {p : Nm → Bool} {k : Nat} : ((L.take k).filter p).length ≤ L.length := Nat.le_trans (List.length_filter_le _ _) (by rw [List.length_take]; omega)
theorem nm_ne (b : Nm) (s : ByteArray) : (!((⟨b.toArray⟩ : ByteArray).toList == s.toList)) = (b != bs s) := by rw [nm_eq]; rfl
set_option maxHeartbeats 2000000 in
theorem without_ok (L : List Nm) (hL : L.length ≤ 1000000000) (s : ByteArray) (M : Mem) (b : Nat) (hM : M b = none) : CallE Try.prog 33 [.c (.sl (cBs L)), .c (.str s)] M [] (.own b) (upd M b (some (.arr 9 1 (cBs (delN (bs s) L))))) := by
  refine ok_own tab_ok Try.func33 (by kernel_rfl) rfl rfl (by rfl) (by rfl) ⟨_, _, _, .inl rfl⟩ (fun R hkeep => ?_) M b hM
  repeat (first | refine W.seq ?_ | refine W.block ?_ | refine W.skip ?_ | refine W.exit ?_ | refine W.region tab_ok 0 (by decide) (exec_run (by simp only [exa, beq_self_eq_true, ByteArray.size, Nat.reduceAdd, Nat.reduceLeDiff, Nat.reduceEqDiff, Nat.reduceMul, Int.reduceToNat, reduceIte, Int.reduceLE, Int.reduceNeg]; rfl)) ?_)
  refine W.newArr 5 30 9 1 rfl rfl ?_
  refine W.loop (ι := Nat) (fun k => ⟨upd (upd (upd (upd (upd (fun _ => .top) 1 (.c (.str s))) 5 (.own 30)) 8 (.c (.sl (cBs L)))) 9 (.c (.int .i64 L.length))) 10 (.c (.int .i64 k)), upd Mem.nil 30 (some (.arr 9 1 (cBs ((L.take k).filter fun t => t != bs s))))⟩)
    (fun k => k ≤ L.length) (fun k => L.length - k) 0 ?start (Nat.zero_le _) ?round
  case start =>
    refine le_mk ?sle ?mle ?swf ?mwf ?kept (by rfl)
    case kept => exact kept_not hkeep
    case swf => repeat (first | exact swf_top _ | refine swf_upd ?_ (by simp [A.ids, upd_app]))
    case mwf => repeat (first | exact mwf_nil _ | refine mwf_upd ?_ (by simp [A.ids, O.ids, upd_app]))
    case mle => repeat (first | exact mle_nil _ | exact mle_refl _ | refine mle_upd ?_ (by first | rfl | (simp only [upd_app, killM_app, Nat.reduceEqDiff, reduceIte, List.length_map]; done)))
    case sle => repeat (first | exact sle_top _ | exact sle_refl _ | refine sle_upd ?_ (by first | rfl | (simp only [upd_app, entry_zero, entry_succ, Nat.reduceEqDiff, reduceIte, List.length_map]; done)))
  case round =>
    rintro k hk
    repeat (first | refine W.seq ?_ | refine W.block ?_ | refine W.skip ?_ | refine W.exit ?_ | refine W.region tab_ok 0 (by decide) (exec_run (by simp only [exa, beq_self_eq_true, ByteArray.size, Nat.reduceAdd, Nat.reduceLeDiff, Nat.reduceEqDiff, Nat.reduceMul, Int.reduceToNat, reduceIte, Int.reduceLE, Int.reduceNeg]; rfl)) ?_)
    refine W.cond rfl ?_ ?_
    · intro hlt
      simp only [decide_eq_true_eq, Int.ofNat_lt] at hlt
      obtain ⟨x, hx⟩ : ∃ x, L[k]? = some x := ⟨_, List.getElem?_eq_getElem hlt⟩
      have htk := take_filter (p := fun t => t != bs s) hx
      have hfl := filt_len (L := L) (p := fun t => t != bs s) (k := k)
      repeat (first | refine W.seq ?_ | refine W.block ?_ | refine W.skip ?_ | refine W.exit ?_ | refine W.region tab_ok 0 (by decide) (exec_run (by simp only [exa, beq_self_eq_true, ByteArray.size, Nat.reduceAdd, Nat.reduceLeDiff, Nat.reduceEqDiff, Nat.reduceMul, Int.reduceToNat, reduceIte, Int.reduceLE, Int.reduceNeg, List.length_map, hlt, at_map hx, cB, nm_ne]; rfl)) ?_)
      refine W.cond rfl ?_ ?_
      · intro heq
        rw [if_pos heq] at htk
        repeat (first | refine W.seq ?_ | refine W.block ?_ | refine W.skip ?_ | refine W.exit ?_ | refine W.region tab_ok 0 (by decide) (exec_run (by simp only [exa, beq_self_eq_true, ByteArray.size, Nat.reduceAdd, Nat.reduceLeDiff, Nat.reduceEqDiff, Nat.reduceMul, Int.reduceToNat, reduceIte, Int.reduceLE, Int.reduceNeg]; rfl)) ?_)
        refine W.regionK tab_ok 0 (by decide) ?_
        refine runk_split 3 (by simp only [exa, beq_self_eq_true, ByteArray.size, Nat.reduceAdd, Nat.reduceLeDiff, Nat.reduceEqDiff, Nat.reduceMul, Int.reduceToNat, reduceIte, Int.reduceLE, Int.reduceNeg]; rfl) ?_
        refine runk_append tab_ok 30 rfl rfl rfl rfl rfl rfl rfl rfl (by first | rfl | (simp only [exa, beq_self_eq_true, ByteArray.size, Nat.reduceAdd, Nat.reduceLeDiff, Nat.reduceEqDiff, Nat.reduceMul, Int.reduceToNat, reduceIte, Int.reduceLE, Int.reduceNeg]; rfl)) rfl rfl rfl rfl (nokeep hkeep) (by simp) (by simp; omega) (by decide) ?_
        refine runk_exec (by simp only [exa, beq_self_eq_true, ByteArray.size, Nat.reduceAdd, Nat.reduceLeDiff, Nat.reduceEqDiff, Nat.reduceMul, Int.reduceToNat, reduceIte, Int.reduceLE, Int.reduceNeg]; rfl) ?_
        repeat (first | refine W.seq ?_ | refine W.block ?_ | refine W.skip ?_ | refine W.exit ?_ | refine W.region tab_ok 0 (by decide) (exec_run (by simp only [exa, beq_self_eq_true, ByteArray.size, Nat.reduceAdd, Nat.reduceLeDiff, Nat.reduceEqDiff, Nat.reduceMul, Int.reduceToNat, reduceIte, Int.reduceLE, Int.reduceNeg]; rfl)) ?_)
        refine ⟨k + 1, hlt, by omega, ?_⟩
        rw [htk]
        refine le_mk ?sle ?mle ?swf ?mwf ?kept (by rfl)
        case kept => exact kept_not hkeep
        case swf => repeat (first | exact swf_top _ | refine swf_upd ?_ (by simp [A.ids, upd_app]))
        case mwf => repeat (first | exact mwf_nil _ | refine mwf_upd ?_ (by simp [A.ids, O.ids, upd_app]))
        case mle => repeat (first | exact mle_nil _ | exact mle_refl _ | refine mle_upd ?_ (by first | rfl | (simp only [upd_app, killM_app, Nat.reduceEqDiff, reduceIte, wrap_succ (show k + 1 < 9223372036854775808 by omega), List.map_append, List.map_cons, List.map_nil, cB]; done)))
        case sle => repeat (first | exact sle_top _ | exact sle_refl _ | refine sle_upd ?_ (by first | rfl | (simp only [upd_app, entry_zero, entry_succ, Nat.reduceEqDiff, reduceIte, wrap_succ (show k + 1 < 9223372036854775808 by omega), List.map_append, List.map_cons, List.map_nil, cB]; done)))
      · intro hne
        rw [if_neg (by simp [hne]), List.append_nil] at htk
        repeat (first | refine W.seq ?_ | refine W.block ?_ | refine W.skip ?_ | refine W.exit ?_ | refine W.region tab_ok 0 (by decide) (exec_run (by simp only [exa, beq_self_eq_true, ByteArray.size, Nat.reduceAdd, Nat.reduceLeDiff, Nat.reduceEqDiff, Nat.reduceMul, Int.reduceToNat, reduceIte, Int.reduceLE, Int.reduceNeg]; rfl)) ?_)
        refine ⟨k + 1, hlt, by omega, ?_⟩
        rw [htk]
        refine le_mk ?sle ?mle ?swf ?mwf ?kept (by rfl)
        case kept => exact kept_not hkeep
        case swf => repeat (first | exact swf_top _ | refine swf_upd ?_ (by simp [A.ids, upd_app]))
        case mwf => repeat (first | exact mwf_nil _ | refine mwf_upd ?_ (by simp [A.ids, O.ids, upd_app]))
        case mle => repeat (first | exact mle_nil _ | exact mle_refl _ | refine mle_upd ?_ (by first | rfl | (simp only [upd_app, killM_app, Nat.reduceEqDiff, reduceIte, wrap_succ (show k + 1 < 9223372036854775808 by omega)]; done)))
        case sle => repeat (first | exact sle_top _ | exact sle_refl _ | refine sle_upd ?_ (by first | rfl | (simp only [upd_app, entry_zero, entry_succ, Nat.reduceEqDiff, reduceIte, wrap_succ (show k + 1 < 9223372036854775808 by omega)]; done)))
    · intro hge
      simp only [decide_eq_false_iff_not, Int.ofNat_lt] at hge
      obtain rfl : k = L.length := by omega
      rw [List.take_length]
      repeat (first | refine W.seq ?_ | refine W.block ?_ | refine W.skip ?_ | refine W.exit ?_ | refine W.region tab_ok 0 (by decide) (exec_run (by simp only [exa, beq_self_eq_true, ByteArray.size, Nat.reduceAdd, Nat.reduceLeDiff, Nat.reduceEqDiff, Nat.reduceMul, Int.reduceToNat, reduceIte, Int.reduceLE, Int.reduceNeg]; rfl)) ?_)
      refine W.ret ⟨.inr rfl, by rfl, 30, ?_, rfl⟩
      simp only [Try.f33, resE, resOne, fin, toT, exa, beq_self_eq_true, ByteArray.size, Nat.reduceAdd, Nat.reduceLeDiff, Nat.reduceEqDiff, Nat.reduceMul, Int.reduceToNat, reduceIte, Int.reduceLE, Int.reduceNeg]
set_option maxHeartbeats 2000000 in
theorem both_ok (L Lb : List Nm) (hL : L.length ≤ 1000000000) (hLb : Lb.length ≤ 1000000000) (m : Mem) : COk Try.prog 52 [.c (.sl (cBs L)), .c (.sl (cBs Lb))] m (.c (.sl (cBs (L.filter fun t => Lb.contains t)))) := by
  refine (ok_pure tab_ok Try.func52 (by kernel_rfl) rfl rfl (by rfl) (by rfl) (by rfl) (fun R hkeep => ?_) m)
  repeat (first | refine W.seq ?_ | refine W.block ?_ | refine W.skip ?_ | refine W.exit ?_ | refine W.region tab_ok 0 (by decide) (exec_run (by simp only [exa, beq_self_eq_true, ByteArray.size, Nat.reduceAdd, Nat.reduceLeDiff, Nat.reduceEqDiff, Nat.reduceMul, Int.reduceToNat, reduceIte, Int.reduceLE, Int.reduceNeg]; rfl)) ?_)
  refine W.newArr 5 30 9 1 rfl rfl ?_
  refine W.loop (ι := Nat) (fun k => ⟨upd (upd (upd (upd (upd (fun _ => .top) 1 (.c (.sl (cBs Lb)))) 5 (.own 30)) 8 (.c (.sl (cBs L)))) 9 (.c (.int .i64 L.length))) 10 (.c (.int .i64 k)), upd Mem.nil 30 (some (.arr 9 1 (cBs ((L.take k).filter fun t => Lb.contains t))))⟩)
    (fun k => k ≤ L.length) (fun k => L.length - k) 0 ?start (Nat.zero_le _) ?round
  case start =>
    refine le_mk ?sle ?mle ?swf ?mwf ?kept (by rfl)
    case kept => exact kept_not hkeep
    case swf => repeat (first | exact swf_top _ | refine swf_upd ?_ (by simp [A.ids, upd_app]))
    case mwf => repeat (first | exact mwf_nil _ | refine mwf_upd ?_ (by simp [A.ids, O.ids, upd_app]))
    case mle => repeat (first | exact mle_nil _ | exact mle_refl _ | refine mle_upd ?_ (by first | rfl | (simp only [upd_app, killM_app, Nat.reduceEqDiff, reduceIte, List.length_map]; done)))
    case sle => repeat (first | exact sle_top _ | exact sle_refl _ | refine sle_upd ?_ (by first | rfl | (simp only [upd_app, entry_zero, entry_succ, Nat.reduceEqDiff, reduceIte, List.length_map]; done)))
  case round =>
    rintro k hk
    repeat (first | refine W.seq ?_ | refine W.block ?_ | refine W.skip ?_ | refine W.exit ?_ | refine W.region tab_ok 0 (by decide) (exec_run (by simp only [exa, beq_self_eq_true, ByteArray.size, Nat.reduceAdd, Nat.reduceLeDiff, Nat.reduceEqDiff, Nat.reduceMul, Int.reduceToNat, reduceIte, Int.reduceLE, Int.reduceNeg]; rfl)) ?_)
    refine W.cond rfl ?_ ?_
    · intro hlt
      simp only [decide_eq_true_eq, Int.ofNat_lt] at hlt
      obtain ⟨x, hx⟩ : ∃ x, L[k]? = some x := ⟨_, List.getElem?_eq_getElem hlt⟩
      have htk := take_filter (p := fun t => Lb.contains t) hx
      have hfl := filt_len (L := L) (p := fun t => Lb.contains t) (k := k)
      have hhx := has_ok Lb (by omega) ⟨x.toArray⟩
      rw [bs_mk] at hhx
      repeat (first | refine W.seq ?_ | refine W.block ?_ | refine W.skip ?_ | refine W.exit ?_ | refine W.region tab_ok 0 (by decide) (exec_run (by simp only [exa, beq_self_eq_true, ByteArray.size, Nat.reduceAdd, Nat.reduceLeDiff, Nat.reduceEqDiff, Nat.reduceMul, Int.reduceToNat, reduceIte, Int.reduceLE, Int.reduceNeg, List.length_map, hlt, at_map hx, cB]; rfl)) ?_)
      refine W.regionK tab_ok 0 (by decide) ?_
      refine runk_split 2 (by simp only [exa, beq_self_eq_true, ByteArray.size, Nat.reduceAdd, Nat.reduceLeDiff, Nat.reduceEqDiff, Nat.reduceMul, Int.reduceToNat, reduceIte, Int.reduceLE, Int.reduceNeg]; rfl) ?_
      refine runk_call rfl rfl rfl rfl rfl (by simp) (cvs_cons cv_refl (cvs_cons cv_refl cvs_nil)) (hhx _) ?_
      refine runk_exec (by simp only [exa, beq_self_eq_true, ByteArray.size, Nat.reduceAdd, Nat.reduceLeDiff, Nat.reduceEqDiff, Nat.reduceMul, Int.reduceToNat, reduceIte, Int.reduceLE, Int.reduceNeg]; rfl) ?_
      refine W.cond rfl ?_ ?_
      · intro heq
        rw [if_pos heq] at htk
        repeat (first | refine W.seq ?_ | refine W.block ?_ | refine W.skip ?_ | refine W.exit ?_ | refine W.region tab_ok 0 (by decide) (exec_run (by simp only [exa, beq_self_eq_true, ByteArray.size, Nat.reduceAdd, Nat.reduceLeDiff, Nat.reduceEqDiff, Nat.reduceMul, Int.reduceToNat, reduceIte, Int.reduceLE, Int.reduceNeg]; rfl)) ?_)
        refine W.regionK tab_ok 0 (by decide) ?_
        refine runk_split 3 (by simp only [exa, beq_self_eq_true, ByteArray.size, Nat.reduceAdd, Nat.reduceLeDiff, Nat.reduceEqDiff, Nat.reduceMul, Int.reduceToNat, reduceIte, Int.reduceLE, Int.reduceNeg]; rfl) ?_
        refine runk_append tab_ok 30 rfl rfl rfl rfl rfl rfl rfl rfl (by first | rfl | (simp only [exa, beq_self_eq_true, ByteArray.size, Nat.reduceAdd, Nat.reduceLeDiff, Nat.reduceEqDiff, Nat.reduceMul, Int.reduceToNat, reduceIte, Int.reduceLE, Int.reduceNeg]; rfl)) rfl rfl rfl rfl (nokeep hkeep) (by simp) (by simp only [List.length_map, List.length_cons, List.length_nil]; omega) (by decide) ?_
        refine runk_exec (by simp only [exa, beq_self_eq_true, ByteArray.size, Nat.reduceAdd, Nat.reduceLeDiff, Nat.reduceEqDiff, Nat.reduceMul, Int.reduceToNat, reduceIte, Int.reduceLE, Int.reduceNeg]; rfl) ?_
        repeat (first | refine W.seq ?_ | refine W.block ?_ | refine W.skip ?_ | refine W.exit ?_ | refine W.region tab_ok 0 (by decide) (exec_run (by simp only [exa, beq_self_eq_true, ByteArray.size, Nat.reduceAdd, Nat.reduceLeDiff, Nat.reduceEqDiff, Nat.reduceMul, Int.reduceToNat, reduceIte, Int.reduceLE, Int.reduceNeg]; rfl)) ?_)
        refine ⟨k + 1, hlt, by omega, ?_⟩
        rw [htk]
        refine le_mk ?sle ?mle ?swf ?mwf ?kept (by rfl)
        case kept => exact kept_not hkeep
        case swf => repeat (first | exact swf_top _ | refine swf_upd ?_ (by simp [A.ids, upd_app]))
        case mwf => repeat (first | exact mwf_nil _ | refine mwf_upd ?_ (by simp [A.ids, O.ids, upd_app]))
        case mle => repeat (first | exact mle_nil _ | exact mle_refl _ | refine mle_upd ?_ (by first | rfl | (simp only [upd_app, killM_app, Nat.reduceEqDiff, reduceIte, wrap_succ (show k + 1 < 9223372036854775808 by omega), List.map_append, List.map_cons, List.map_nil, cB]; done)))
        case sle => repeat (first | exact sle_top _ | exact sle_refl _ | refine sle_upd ?_ (by first | rfl | (simp only [upd_app, entry_zero, entry_succ, Nat.reduceEqDiff, reduceIte, wrap_succ (show k + 1 < 9223372036854775808 by omega), List.map_append, List.map_cons, List.map_nil, cB]; done)))
      · intro hne
        rw [if_neg (by rw [hne]; decide), List.append_nil] at htk
        repeat (first | refine W.seq ?_ | refine W.block ?_ | refine W.skip ?_ | refine W.exit ?_ | refine W.region tab_ok 0 (by decide) (exec_run (by simp only [exa, beq_self_eq_true, ByteArray.size, Nat.reduceAdd, Nat.reduceLeDiff, Nat.reduceEqDiff, Nat.reduceMul, Int.reduceToNat, reduceIte, Int.reduceLE, Int.reduceNeg]; rfl)) ?_)
        refine ⟨k + 1, hlt, by omega, ?_⟩
        rw [htk]
        refine le_mk ?sle ?mle ?swf ?mwf ?kept (by rfl)
        case kept => exact kept_not hkeep
        case swf => repeat (first | exact swf_top _ | refine swf_upd ?_ (by simp [A.ids, upd_app]))
        case mwf => repeat (first | exact mwf_nil _ | refine mwf_upd ?_ (by simp [A.ids, O.ids, upd_app]))
        case mle => repeat (first | exact mle_nil _ | exact mle_refl _ | refine mle_upd ?_ (by first | rfl | (simp only [upd_app, killM_app, Nat.reduceEqDiff, reduceIte, wrap_succ (show k + 1 < 9223372036854775808 by omega)]; done)))
        case sle => repeat (first | exact sle_top _ | exact sle_refl _ | refine sle_upd ?_ (by first | rfl | (simp only [upd_app, entry_zero, entry_succ, Nat.reduceEqDiff, reduceIte, wrap_succ (show k + 1 < 9223372036854775808 by omega)]; done)))
    · intro hge
      simp only [decide_eq_false_iff_not, Int.ofNat_lt] at hge
      obtain rfl : k = L.length := by omega
      rw [List.take_length]
      repeat (first | refine W.seq ?_ | refine W.block ?_ | refine W.skip ?_ | refine W.exit ?_ | refine W.region tab_ok 0 (by decide) (exec_run (by simp only [exa, beq_self_eq_true, ByteArray.size, Nat.reduceAdd, Nat.reduceLeDiff, Nat.reduceEqDiff, Nat.reduceMul, Int.reduceToNat, reduceIte, Int.reduceLE, Int.reduceNeg]; rfl)) ?_)
      refine W.ret ⟨.inr rfl, by rfl, ?_⟩
      simp only [Try.f52, resA, resOne, toT, fin, exa, beq_self_eq_true, ByteArray.size, Nat.reduceAdd, Nat.reduceLeDiff, Nat.reduceEqDiff, Nat.reduceMul, Int.reduceToNat, reduceIte, Int.reduceLE, Int.reduceNeg]
end V
end Go.Proofs.Ytgaipdillmleeaa
end
section
/- A map that a call hands back, whichever it is, told by the name of the one that it was handed. -/
set_option linter.unusedVariables false
set_option linter.unusedSimpArgs false
namespace Go.Proofs.Ytgaipdillmleeaa
namespace V
open Go.RowKit
theorem a1kill_kill (j : Nat) (a : A1) : (a.kill j).kill j = a.kill j := by
  unfold A1.kill
  split
  · simp [A1.ids]
  · rfl
theorem akill_kill (j : Nat) (a : A) : (a.kill j).kill j = a.kill j := by
  rcases (A.kill_ids (id := j) (a := a)).2 with e | ⟨e, -⟩
  · rw [e]; rfl
  · rw [e, e]
theorem okill_kill (j : Nat) (o : O) : O.kill j (O.kill j o) = O.kill j o := by
  cases o <;> simp [O.kill, akill_kill, a1kill_kill]
theorem killM_kill (j : Nat) (m : Mem) : killM j (killM j m) = killM j m := by
  funext i
  rw [killM_app, killM_app]
  cases m i with
  | none => rfl
  | some o => simp [okill_kill]
theorem killM_upd (id : Nat) (m : Mem) (j : Nat) (o : Option O) : killM id (upd m j o) = upd (killM id m) j (o.map (O.kill id)) := by
  funext i
  unfold upd
  rw [killM_app]
  split
  · rfl
  · rfl
/-- The memory behind: piece j is another map, whoever spoke of it is no longer told. -/
def jnM (M : Mem) (j : Nat) (o : Option (List (List UInt8))) : Mem := upd (killM j M) j (some (.names o))
theorem jnM_j {M : Mem} {j : Nat} {o} : jnM M j o j = some (.names o) := upd_same ..
theorem jnM_none {M : Mem} {j i : Nat} {o} (h : M i = none) (hj : (M j).isSome = true) : jnM M j o i = none := by
  have : i ≠ j := fun e => by subst e; rw [h] at hj; cases hj
  unfold jnM
  rw [upd_ne _ _ this, killM_app, h]; rfl
theorem jnM_isSome {M : Mem} {j i : Nat} {o} (h : (M i).isSome = true) : (jnM M j o i).isSome = true := by
  unfold jnM upd
  split
  · rfl
  · rw [killM_app]; simpa using h
theorem jnM_jn {M : Mem} {j : Nat} {o o'} : jnM (jnM M j o) j o' = jnM M j o' := by
  unfold jnM
  rw [killM_upd, killM_kill]
  funext i
  unfold upd
  split
  · rfl
  · rfl
theorem jnM_wf {M : Mem} {j : Nat} {o} (hw : WFm M) : WFm (jnM M j o) := fun i x hx q hq => by
  unfold jnM upd at hx
  split at hx
  · cases hx; simp [O.ids] at hq
  · rw [killM_app] at hx
    cases hm : M i with
    | none => rw [hm] at hx; cases hx
    | some y =>
      rw [hm] at hx
      cases hx
      exact jnM_isSome (hw i y hm q (O.kill_ids q hq))
section
variable {w0 w : World} {I0 I : Nat → Nat → Prop} {B : Nat → Value} {m M : Mem}
theorem MR.moveN (h : MR w0 I0 B I m w) {i j : Nat} {x o : Option (List (List UInt8))} (hi : m i = some (.names x)) (hx : x = o ∨ o = none) (hij : i = j ∨ M i = none) (hM : ∀ u z, u ≠ j → M u = some z → m u = some z ∨ m u = some (O.kill j z)) (hw : WFm M) (hjs : (M j).isSome = true) : MR w0 I0 (upd B j (B i)) I (jnM M j o) w := by
  have other : ∀ {u : Nat} {z : O}, jnM M j o u = some z → (u = j ∧ z = .names o) ∨ (u ≠ j ∧ u ≠ i ∧ ∃ y, M u = some y ∧ z = O.kill j y) := fun {u z} hz => by
    unfold jnM upd at hz
    split at hz
    · rename_i e; exact .inl ⟨e, (Option.some.inj hz).symm⟩
    · rename_i e
      rw [killM_app] at hz
      cases hm : M u with
      | none => rw [hm] at hz; cases hz
      | some y =>
        rw [hm] at hz
        refine .inr ⟨e, fun q => ?_, y, rfl, (Option.some.inj hz).symm⟩
        subst q
        rcases hij with q | q
        · exact e q
        · rw [q] at hm; cases hm
  obtain ⟨r, es, clock, r1, r2, r3, r4⟩ := h.objs i _ hi
  have hB : ∀ u, u ≠ j → upd B j (B i) u = B u := fun u hu => upd_ne _ _ hu
  have ft : ∀ {u : Nat} {y : O} {k : Nat}, u ≠ j → foot (upd B j (B i)) u (O.kill j y) k → M u = some y → ∃ y', m u = some y' ∧ foot B u y' k := fun {u y k} hu hk hy => by
    have := (foot_kill (hB u hu)).1 hk
    rcases hM u y hu hy with q | q
    · exact ⟨y, q, this⟩
    · exact ⟨_, q, (foot_kill (B := B) rfl).2 this⟩
  have fj : ∀ {k : Nat}, foot (upd B j (B i)) j (.names o) k → foot B i (.names x) k := fun {k} hk => by
    have hk : upd B j (B i) j = .map (some k) := hk
    rw [upd_same] at hk; exact hk
  refine ⟨h.below, h.glob, h.base, h.old, h.there, fun u z hz => ?_, fun u z hz k hk => ?_, fun u z u' z' hz hz' hne k hk hk' => ?_, fun u z hz q hq => ?_⟩
  · rcases other hz with ⟨rfl, rfl⟩ | ⟨hu, -, y, hy, rfl⟩
    · refine ⟨r, es, clock, by rw [upd_same]; exact r1, r2, ?_, r4⟩
      rcases hx with rfl | rfl
      · exact r3
      · exact r3.forget
    · rcases hM u y hu hy with q | q
      · exact RO.kill (Ext.refl _ _) (hB u hu) (fun v hv => hB v hv) (fun _ _ => rfl) (fun _ _ _ k => k) (h.objs u _ q)
      · have := RO.kill (id := j) (Ext.refl _ _) (hB u hu) (fun v hv => hB v hv) (fun _ _ => rfl) (fun _ _ _ k => k) (h.objs u _ q)
        rwa [okill_kill] at this
  · rcases other hz with ⟨rfl, rfl⟩ | ⟨hu, -, y, hy, rfl⟩
    · exact h.low i _ hi k (fj hk)
    · obtain ⟨y', q1, q2⟩ := ft hu hk hy
      exact h.low u _ q1 k q2
  · rcases other hz with ⟨e1, e2⟩ | ⟨hu, hui, y, hy, e2⟩
    · rcases other hz' with ⟨e3, e4⟩ | ⟨hu', hui', y', hy', e4⟩
      · exact hne (e1.trans e3.symm)
      · rw [e1, e2] at hk
        rw [e4] at hk'
        obtain ⟨y2, q1, q2⟩ := ft hu' hk' hy'
        exact h.apart i _ u' y2 hi q1 (fun e => hui' e.symm) k (fj hk) q2
    · rw [e2] at hk
      obtain ⟨y1, p1, p2⟩ := ft hu hk hy
      rcases other hz' with ⟨e3, e4⟩ | ⟨hu', hui', y', hy', e4⟩
      · rw [e3, e4] at hk'
        exact h.apart u y1 i _ p1 hi hui k p2 (fj hk')
      · rw [e4] at hk'
        obtain ⟨y2, q1, q2⟩ := ft hu' hk' hy'
        exact h.apart u y1 u' y2 p1 q1 hne k p2 q2
  · rcases other hz with ⟨rfl, rfl⟩ | ⟨hu, -, y, hy, rfl⟩
    · simp [O.ids] at hq
    · exact jnM_isSome (hw u y hy q (O.kill_ids q hq))
end
/-- Piece j is told alone. -/
theorem W.forgetN {P : Go.Program} {R : Ref} {n : Nat} {ds : List Deferred} {st : St} {c : Code} {K : Exit → St → Prop} (j : Nat) {o : Option (List (List UInt8))} (hj : st.m j = some (.names o)) (h : W P R n ds ⟨st.s, jnM st.m j o⟩ c K) : W P R n ds st c K := fun a w hr => by
  refine h a w ?_
  obtain ⟨B, I, hm, hx0, hkp0, hs⟩ := hr.ex
  have hB : upd B j (B j) = B := upd_id B rfl
  have hm2 := hm.moveN (M := st.m) (j := j) (o := o) hj (.inl rfl) (.inl rfl) (fun u z _ hz => .inl hz) hr.wf.live (by rw [hj]; rfl)
  rw [hB] at hm2
  exact ⟨⟨B, I, hm2, hx0, hkp0, hs⟩, fun t i hi => jnM_isSome (hr.ids t i hi), hr.size, hr.nn, hr.defs, fun i hi => jnM_isSome (hr.kept i hi)⟩
/-- A set and whether all is well. -/
def resN (o : Option (List (List UInt8))) (ok : Bool) (j : Nat) : A := .tupA [match o with | some _ => .map j | none => .nilv (.map none), .c (.bool ok)]
/-- A function that turns the map that it is handed into another one. -/
theorem ok_effN {P : Go.Program} {T : Tab} (hT : T.Ok P) {f : FuncId} {fn : Func} {c : Code} {l : List ResultVar} {args : List A} {M : Mem} (j : Nat) (o : Option (List (List UInt8))) (ok : Bool) (hf : P.funcs[f]? = some fn) (hn : (fn.name == "runtime.NumGoroutine") = false) (hb : fn.body = some c) (hl : fn.results.toList = l)
    (hle : decide (args.length ≤ fn.ntmps ∧ fn.ntmps ≤ DID) = true) (hdf : args.all (fun a => !(match a with | .defs _ => true | _ => false)) = true) (hids : ∀ a ∈ args, ∀ j ∈ a.ids, (M j).isSome = true) (hj : (M j).isSome = true)
    (hW : WFm M → ∀ R : Ref, R.keep = (fun u => (M u).isSome = true ∧ u ∉ [j]) → W P R fn.ntmps [] ⟨entry args, M⟩ c (fun e st => (e = .normal ∨ e = .ret) ∧ dfs (st.s DID) = [] ∧
      ∃ i x, resE T st l = some (resN o ok i) ∧ st.m i = some (.names x) ∧ (x = o ∨ o = none) ∧ (i = j ∨ M i = none) ∧ ∀ u z, u ≠ j → M u = some z → st.m u = some z ∨ st.m u = some (O.kill j z))) : CallE P f args M [j] (resN o ok j) (jnM M j o) := by
  refine ⟨enters_of hf hn hb, fun u hu => ?_, fun u hu => jnM_isSome hu, jnM_wf, ?_⟩
  · have : u = j := by
      unfold resN at hu
      cases o with
      | none => simp [A.ids, A1.ids] at hu
      | some L => simpa [A.ids, A1.ids] using hu
    subst this
    rw [jnM_j]; rfl
  intro w0 I0 B I w vals hm hv
  have hWF : WFm M := hm.live
  have hd2 : ∀ a ∈ args, ∀ l, a ≠ .defs l := fun a ha l e => by have := List.all_eq_true.1 hdf a ha; subst e; simp at this
  obtain ⟨hl1, hl2⟩ := of_decide_eq_true hle
  have hlen := rvl_len hv
  refine calls_of_wp hf hb ?_
  have h0 : SR ⟨w0, I0, w, I, B, fun u => (M u).isSome = true ∧ u ∉ [j]⟩ fn.ntmps [] ⟨entry args, M⟩ { tmps := vals.toArray ++ Array.replicate (fn.ntmps - vals.toArray.size) undef, defers := [] } w := by
    refine ⟨⟨B, I, hm, Ext.refl _ _, fun _ _ => rfl, rvl_entry hv⟩, fun t i hi => ?_, by simp [hlen]; omega, hl2, by rw [show dfs ((⟨entry args, M⟩ : St).s DID) = [] from entry_dfs (fun a ha l e => by subst e; exact hd2 _ ha l rfl)]; rfl, fun i hi => hi.1⟩
    simp only [entry, List.getD_eq_getElem?_getD] at hi
    cases hx : args[t]? with
    | none => rw [hx] at hi; simp [A.ids] at hi
    | some a => rw [hx] at hi; exact hids a (List.mem_of_getElem? hx) i hi
  refine wp_mono (hW hWF _ rfl _ w h0) ?_
  rintro e a' w' ⟨st', ⟨he, hdn, i, x, hres, hi, hx, hij, hkeep⟩, ⟨⟨B', I', hm', hx', hkp', hs'⟩, -, -, -, hds, -⟩⟩
  rw [hdn] at hds
  obtain ⟨v, h1, h2⟩ := resE_snd hT hm' hs' hl hres
  have hm2 := hm'.moveN (M := M) hi hx hij hkeep hWF hj
  have hB : ∀ u, (M u).isSome = true → u ∉ [j] → upd B' j (B' i) u = B u := fun u hu hn => by
    rw [upd_ne _ _ (fun e => hn (by simp [e]))]; exact hkp' u ⟨hu, hn⟩
  have hv2 : RV (upd B' j (B' i)) w' I' (resN o ok j) v := by
    unfold resN at h2 ⊢
    cases o with
    | none =>
      obtain ⟨vs, q1, q2⟩ := h2
      refine ⟨vs, q1, ?_⟩
      match vs, q2 with
      | [v1, v2], ⟨p1, p3, p4⟩ => exact ⟨p1, p3, p4⟩
    | some L =>
      obtain ⟨vs, q1, q2⟩ := h2
      refine ⟨vs, q1, ?_⟩
      match vs, q2 with
      | [v1, v2], ⟨⟨p1, p2⟩, p3, p4⟩ =>
        exact ⟨⟨by rw [upd_same]; exact p1, p2⟩, p3, p4⟩
  have hpost : a'.defers = [] ∧ ∃ v, (results fn a'.tmps).run P w' = .ok v w' ∧ ∃ v' B'' I'', Ending.returned v = .returned v' ∧ MR w0 I0 B'' I'' (jnM M j o) w' ∧ Ext w w' I I'' ∧ (∀ u, (M u).isSome = true → u ∉ [j] → B'' u = B u) ∧ RV B'' w' I'' (resN o ok j) v' :=
    ⟨hds, v, h1, v, _, I', rfl, hm2, hx', hB, hv2⟩
  rcases he with rfl | rfl
  · exact hpost
  · exact hpost
end V
end Go.Proofs.Ytgaipdillmleeaa
end
section
/- What two ways have in common: the program's meet walked. -/
set_option linter.unusedVariables false
set_option linter.unusedSimpArgs false
namespace Go.Proofs.Ytgaipdillmleeaa
namespace V
open Go.RowKit AS
abbrev nilN : A := .nilv (.map none)
theorem meet_nn (M : Mem) (b : Nat) (hM : ∀ d, M (b + d) = none) : CallE Try.prog 28 [nilN, nilN] M [] nilN M := by
  refine (ok_eff tab_ok [] Try.func28 (by kernel_rfl) rfl rfl (by rfl) (by rfl) ?ids ?res ?sub ?wfm (fun hWF Rr hkeep => ?_))
  case ids => intro a ha j hj; simp at ha; subst ha; simp [A.ids] at hj
  case res => intro j hj; simp [A.ids] at hj
  case sub => exact fun j hj => hj
  case wfm => exact fun hw => hw
  repeat (first | refine W.seq ?_ | refine W.block ?_ | refine W.skip ?_ | refine W.exit ?_ | refine W.region tab_ok b (by decide) (exec_run (by simp only [exa, beq_self_eq_true, ByteArray.size, Nat.reduceAdd, Nat.reduceLeDiff, Nat.reduceEqDiff, Nat.reduceMul, Int.reduceToNat, reduceIte, Int.reduceLE, Int.reduceNeg, hM]; rfl)) ?_)
  refine W.cond rfl (fun _ => ?_) (fun h => absurd h (by simp))
  repeat (first | refine W.seq ?_ | refine W.block ?_ | refine W.skip ?_ | refine W.exit ?_ | refine W.region tab_ok b (by decide) (exec_run (by simp only [exa, beq_self_eq_true, ByteArray.size, Nat.reduceAdd, Nat.reduceLeDiff, Nat.reduceEqDiff, Nat.reduceMul, Int.reduceToNat, reduceIte, Int.reduceLE, Int.reduceNeg, hM]; rfl)) ?_)
  refine W.ret ⟨.inr rfl, by rfl, ?_, ?mle⟩
  simp only [Try.f28, resE, resOne, fin, toT, exa, beq_self_eq_true, ByteArray.size, Nat.reduceAdd, Nat.reduceLeDiff, Nat.reduceEqDiff, Nat.reduceMul, Int.reduceToNat, reduceIte, Int.reduceLE, Int.reduceNeg]
  case mle => exact mle_skip (mle_refl' rfl) (hM 3)
theorem meet_nj (j : Nat) {o : O} (M : Mem) (b : Nat) (hM : ∀ d, M (b + d) = none) (hj : M j = some o) : CallE Try.prog 28 [nilN, .map j] M [] (.map j) M := by
  refine (ok_eff tab_ok [] Try.func28 (by kernel_rfl) rfl rfl (by rfl) (by rfl) ?ids ?res ?sub ?wfm (fun hWF Rr hkeep => ?_))
  case ids => intro a ha i hi; simp at ha; rcases ha with rfl | rfl <;> simp [A.ids] at hi; subst hi; simp [hj]
  case res => intro i hi; simp [A.ids] at hi; subst hi; simp [hj]
  case sub => exact fun j hj => hj
  case wfm => exact fun hw => hw
  repeat (first | refine W.seq ?_ | refine W.block ?_ | refine W.skip ?_ | refine W.exit ?_ | refine W.region tab_ok b (by decide) (exec_run (by simp only [exa, beq_self_eq_true, ByteArray.size, Nat.reduceAdd, Nat.reduceLeDiff, Nat.reduceEqDiff, Nat.reduceMul, Int.reduceToNat, reduceIte, Int.reduceLE, Int.reduceNeg, hM]; rfl)) ?_)
  refine W.cond rfl (fun _ => ?_) (fun h => absurd h (by simp))
  repeat (first | refine W.seq ?_ | refine W.block ?_ | refine W.skip ?_ | refine W.exit ?_ | refine W.region tab_ok b (by decide) (exec_run (by simp only [exa, beq_self_eq_true, ByteArray.size, Nat.reduceAdd, Nat.reduceLeDiff, Nat.reduceEqDiff, Nat.reduceMul, Int.reduceToNat, reduceIte, Int.reduceLE, Int.reduceNeg, hM]; rfl)) ?_)
  refine W.ret ⟨.inr rfl, by rfl, ?_, ?mle⟩
  simp only [Try.f28, resE, resOne, fin, toT, exa, beq_self_eq_true, ByteArray.size, Nat.reduceAdd, Nat.reduceLeDiff, Nat.reduceEqDiff, Nat.reduceMul, Int.reduceToNat, reduceIte, Int.reduceLE, Int.reduceNeg]
  case mle => exact mle_skip (mle_refl' rfl) (hM 3)
theorem meet_qn (q : Nat) {o : O} (M : Mem) (b : Nat) (hM : ∀ d, M (b + d) = none) (hq : M q = some o) : CallE Try.prog 28 [.map q, nilN] M [] (.map q) M := by
  refine (ok_eff tab_ok [] Try.func28 (by kernel_rfl) rfl rfl (by rfl) (by rfl) ?ids ?res ?sub ?wfm (fun hWF Rr hkeep => ?_))
  case ids => intro a ha i hi; simp at ha; rcases ha with rfl | rfl <;> simp [A.ids] at hi; subst hi; simp [hq]
  case res => intro i hi; simp [A.ids] at hi; subst hi; simp [hq]
  case sub => exact fun j hj => hj
  case wfm => exact fun hw => hw
  repeat (first | refine W.seq ?_ | refine W.block ?_ | refine W.skip ?_ | refine W.exit ?_ | refine W.region tab_ok b (by decide) (exec_run (by simp only [exa, beq_self_eq_true, ByteArray.size, Nat.reduceAdd, Nat.reduceLeDiff, Nat.reduceEqDiff, Nat.reduceMul, Int.reduceToNat, reduceIte, Int.reduceLE, Int.reduceNeg, hM]; rfl)) ?_)
  refine W.cond rfl (fun h => absurd h (by simp)) (fun _ => ?_)
  repeat (first | refine W.seq ?_ | refine W.block ?_ | refine W.skip ?_ | refine W.exit ?_ | refine W.region tab_ok b (by decide) (exec_run (by simp only [exa, beq_self_eq_true, ByteArray.size, Nat.reduceAdd, Nat.reduceLeDiff, Nat.reduceEqDiff, Nat.reduceMul, Int.reduceToNat, reduceIte, Int.reduceLE, Int.reduceNeg, hM]; rfl)) ?_)
  refine W.cond rfl (fun _ => ?_) (fun h => absurd h (by simp))
  repeat (first | refine W.seq ?_ | refine W.block ?_ | refine W.skip ?_ | refine W.exit ?_ | refine W.region tab_ok b (by decide) (exec_run (by simp only [exa, beq_self_eq_true, ByteArray.size, Nat.reduceAdd, Nat.reduceLeDiff, Nat.reduceEqDiff, Nat.reduceMul, Int.reduceToNat, reduceIte, Int.reduceLE, Int.reduceNeg, hM]; rfl)) ?_)
  refine W.ret ⟨.inr rfl, by rfl, ?_, ?mle⟩
  simp only [Try.f28, resE, resOne, fin, toT, exa, beq_self_eq_true, ByteArray.size, Nat.reduceAdd, Nat.reduceLeDiff, Nat.reduceEqDiff, Nat.reduceMul, Int.reduceToNat, reduceIte, Int.reduceLE, Int.reduceNeg]
  case mle => exact mle_skip (mle_refl' rfl) (hM 3)
theorem meet_qj (q j : Nat) (hqj : q ≠ j) (L Lb : List Nm) (hL : L.length ≤ 1000000000000) (M : Mem) (b : Nat) (hM : ∀ d, M (b + d) = none) (hq : M q = some (.names (some L))) (hj : M j = some (.names (some Lb))) :
    CallE Try.prog 28 [.map q, .map j] M [] (.map q) (upd M q (some (.names (some (L.filter fun s => Lb.contains s))))) := by
  have hjb : ∀ d, (j = b + d) = False := base_ne hM hj
  have hjb' : ∀ d, (b + d = j) = False := base_ne' hM hj
  have hqb : ∀ d, (q = b + d) = False := base_ne hM hq
  have hqb' : ∀ d, (b + d = q) = False := base_ne' hM hq
  refine (ok_eff tab_ok [] Try.func28 (by kernel_rfl) rfl rfl (by rfl) (by rfl) ?ids ?res ?sub ?wfm (fun hWF Rr hkeep => ?_))
  case ids => intro a ha i hi; simp at ha; rcases ha with rfl | rfl <;> simp [A.ids] at hi <;> subst hi <;> simp [hq, hj]
  case res => intro i hi; simp [A.ids] at hi; subst hi; rw [upd_same]; rfl
  case sub => exact fun j hj => live_upd j hj
  case wfm => exact fun hw => mwf_some hw (fun i hi => by simp [O.ids] at hi)
  repeat (first | refine W.seq ?_ | refine W.block ?_ | refine W.skip ?_ | refine W.exit ?_ | refine W.region tab_ok b (by decide) (exec_run (by simp only [exa, beq_self_eq_true, ByteArray.size, Nat.reduceAdd, Nat.reduceLeDiff, Nat.reduceEqDiff, Nat.reduceMul, Int.reduceToNat, reduceIte, Int.reduceLE, Int.reduceNeg, hM]; rfl)) ?_)
  refine W.cond rfl (fun h => absurd h (by simp)) (fun _ => ?_)
  repeat (first | refine W.seq ?_ | refine W.block ?_ | refine W.skip ?_ | refine W.exit ?_ | refine W.region tab_ok b (by decide) (exec_run (by simp only [exa, beq_self_eq_true, ByteArray.size, Nat.reduceAdd, Nat.reduceLeDiff, Nat.reduceEqDiff, Nat.reduceMul, Int.reduceToNat, reduceIte, Int.reduceLE, Int.reduceNeg, hM]; rfl)) ?_)
  refine W.cond rfl (fun h => absurd h (by simp)) (fun _ => ?_)
  repeat (first | refine W.seq ?_ | refine W.block ?_ | refine W.skip ?_ | refine W.exit ?_ | refine W.region tab_ok b (by decide) (exec_run (by simp only [exa, beq_self_eq_true, ByteArray.size, Nat.reduceAdd, Nat.reduceLeDiff, Nat.reduceEqDiff, Nat.reduceMul, Int.reduceToNat, reduceIte, Int.reduceLE, Int.reduceNeg, hM]; rfl)) ?_)
  refine W.regionK tab_ok b (by decide) ?_
  have hd := delN_ok (M := upd M (b + 3) (some (.box 39 [.map j]))) (j := q) (q := b + 3) (b := j) (g := 40) (p := fun s => !Lb.contains s) (by rw [upd_ne _ _ (fun e => cast (hqb _) e)]; exact hq) hL (upd_same ..) (by rw [upd_ne _ _ (fun e => cast (hjb _) e)]; exact hj) hqj (enters_of Try.func40 (by kernel_rfl) rfl) (fun s a W bx rb es clock h1 h2 h3 => meet1_raw s a W bx rb es clock h1 h2 h3)
  refine runk_split 2 (by simp only [exa, beq_self_eq_true, ByteArray.size, Nat.reduceAdd, Nat.reduceLeDiff, Nat.reduceEqDiff, Nat.reduceMul, Int.reduceToNat, reduceIte, Int.reduceLE, Int.reduceNeg, hM, hqb, hjb]; rfl) ?_
  refine runk_callE (D := []) rfl rfl rfl rfl rfl (fun j hj => by simp at hj) (by simp) (cvs_cons cv_refl (cvs_cons cv_refl cvs_nil)) hd ?_
  simp only [killL, putS, upd_upd]
  refine runk_exec (by simp only [exa, beq_self_eq_true, ByteArray.size, Nat.reduceAdd, Nat.reduceLeDiff, Nat.reduceEqDiff, Nat.reduceMul, Int.reduceToNat, reduceIte, Int.reduceLE, Int.reduceNeg]; rfl) ?_
  repeat (first | refine W.seq ?_ | refine W.block ?_ | refine W.skip ?_ | refine W.exit ?_ | refine W.region tab_ok b (by decide) (exec_run (by simp only [exa, beq_self_eq_true, ByteArray.size, Nat.reduceAdd, Nat.reduceLeDiff, Nat.reduceEqDiff, Nat.reduceMul, Int.reduceToNat, reduceIte, Int.reduceLE, Int.reduceNeg]; rfl)) ?_)
  refine W.ret ⟨.inr rfl, by rfl, ?_, ?mle⟩
  simp only [Try.f28, resE, resOne, fin, toT, exa, beq_self_eq_true, ByteArray.size, Nat.reduceAdd, Nat.reduceLeDiff, Nat.reduceEqDiff, Nat.reduceMul, Int.reduceToNat, reduceIte, Int.reduceLE, Int.reduceNeg]
  case mle =>
    rw [upd_comm _ _ _ (fun e => cast (hqb' _) e)]
    refine mle_skip (mle_refl' ?_) ?_
    · simp only [Bool.not_not]
    · rw [upd_ne _ _ (fun e => cast (hqb' _) e)]; exact hM 3
end V
end Go.Proofs.Ytgaipdillmleeaa
end
section
/- The program's run walked, out of its step. -/
set_option linter.unusedVariables false
set_option linter.unusedSimpArgs false
namespace Go.Proofs.Ytgaipdillmleeaa
namespace V
open Go.RowKit AS
mutual
/-- How many statements. -/
def cntS : Stmt → Nat
  | ⟨_, _, _, _, _, th, el⟩ => 1 + cntSs th + cntSs el
def cntSs : List Stmt → Nat
  | [] => 0
  | x :: l => cntS x + cntSs l
end
mutual
def SmS : Stmt → Prop
  | ⟨_, _, _, _, es, th, el⟩ => es.length ≤ 1048576 ∧ SmEs es ∧ th.length ≤ 1048576 ∧ SmSs th ∧ el.length ≤ 1048576 ∧ SmSs el
def SmSs : List Stmt → Prop
  | [] => True
  | x :: l => SmS x ∧ SmSs l
end
theorem SmSs.mem : ∀ {l : List Stmt} {x : Stmt}, SmSs l → x ∈ l → SmS x
  | y :: l, x, h, hx => by
    simp only [SmSs] at h
    rcases List.mem_cons.1 hx with rfl | hx
    · exact h.1
    · exact SmSs.mem h.2 hx
def runFrom (o : Option (List Nm)) (l : List Stmt) : Option (List Nm) × Bool := match o with
  | some L => runB L l
  | none => match l with | [] => (none, true) | _ :: _ => (none, false)
theorem runB_cons (L : List Nm) (x : Stmt) (l : List Stmt) {o : Option (List Nm)} {ok : Bool} (h : stepB L x = (o, ok)) : runB L (x :: l) = if ok = true then runFrom o l else (none, false) := by
  simp only [runB]
  rw [h]
  cases ok
  · rfl
  · cases o
    · cases l <;> rfl
    · rfl
def StepOk (x : Stmt) : Prop := ∀ (L : List Nm) (j : Nat) (M : Mem) (b : Nat), (∀ d, M (b + d) = none) → M j = some (.names (some L)) → L.length + cntS x ≤ 1000000000000 →
  (∀ L', (stepB L x).1 = some L' → L'.length ≤ L.length + cntS x) ∧ CallE Try.prog 18 [.map j, .agg (cStmt x)] M [j] (resN (stepB L x).1 (stepB L x).2 j) (jnM M j (stepB L x).1)
def sO (o : Option (List Nm)) (j : Nat) : A := match o with | some _ => .map j | none => .nilv (.map none)
theorem jn_keep {M : Mem} {j v : Nat} {o1 o2 : Option (List Nm)} {x : Option O} (hv : M v = none) {u : Nat} {z : O} (hu : u ≠ j) (hz : M u = some z) : jnM (upd (jnM M j o1) v x) j o2 u = some (O.kill j z) := by
  have huv : u ≠ v := fun e => by subst e; rw [hv] at hz; cases hz
  unfold jnM
  rw [upd_ne _ _ hu, killM_app, upd_ne _ _ huv, upd_ne _ _ hu, killM_app, hz]
  simp [okill_kill]
theorem jn_keep1 {M : Mem} {j : Nat} {o1 : Option (List Nm)} {u : Nat} {z : O} (hu : u ≠ j) (hz : M u = some z) : jnM M j o1 u = some (O.kill j z) := by
  unfold jnM
  rw [upd_ne _ _ hu, killM_app, hz]; rfl
theorem jn_mle {M : Mem} {j v : Nat} {o1 o2 : Option (List Nm)} {x : Option O} (hv : M v = none) (hj : (M j).isSome = true) : MLe (jnM (upd (jnM M j o1) v x) j o2) (jnM M j o2) := fun u => by
  by_cases hu : u = j
  · subst hu; right; rw [jnM_j, jnM_j]
  · cases hm : M u with
    | none => left; exact jnM_none hm hj
    | some z => right; rw [jn_keep hv hu hm, jn_keep1 hu hm]
set_option maxHeartbeats 4000000 in
theorem run_of (l : List Stmt) (hl : l.length ≤ 1048576) (hst : ∀ x ∈ l, StepOk x) (L : List Nm) (j : Nat) (M : Mem) (b : Nat) (hM : ∀ d, M (b + d) = none) (hj : M j = some (.names (some L))) (hL : L.length + cntSs l ≤ 1000000000000) :
    CallE Try.prog 12 [.map j, .c (.sl (l.map cStmt))] M [j] (resN (runB L l).1 (runB L l).2 j) (jnM M j (runB L l).1) := by
  have hjb : ∀ d, (j = b + d) = False := base_ne hM hj
  have hjs : (M j).isSome = true := by rw [hj]; rfl
  refine ok_effN tab_ok j (runB L l).1 (runB L l).2 Try.func12 (by kernel_rfl) rfl rfl (by rfl) (by rfl) (fun a ha i hi => ?_) hjs (fun hWF Rr hkeep => ?_)
  · simp at ha; rcases ha with rfl | rfl <;> simp [A.ids] at hi; subst hi; exact hjs
  have kept : ∀ o, ∀ i, Rr.keep i → (jnM M j o i).isSome = true := fun o i hi => by rw [hkeep] at hi; exact jnM_isSome hi.1
  have nk : ¬ Rr.keep j := by rw [hkeep]; exact fun h => h.2 (by simp)
  have hJ : ∀ o d, jnM M j o (b + d) = none := fun o d => jnM_none (hM d) hjs
  have hwJ : ∀ o, WFm (jnM M j o) := fun o => jnM_wf hWF
  refine W.forgetN j hj ?_
  repeat (first | refine W.seq ?_ | refine W.block ?_ | refine W.skip ?_ | refine W.exit ?_ | refine W.region tab_ok b (by decide) (exec_run (by simp only [exa, beq_self_eq_true, ByteArray.size, Nat.reduceAdd, Nat.reduceLeDiff, Nat.reduceEqDiff, Nat.reduceMul, Int.reduceToNat, reduceIte, Int.reduceLE, Int.reduceNeg]; rfl)) ?_)
  refine W.loop (ι := Nat × Option (List Nm)) (fun i => ⟨upd (upd (upd (upd (fun _ => .top) 0 (sO i.2 j)) 9 (.c (.sl (l.map cStmt)))) 10 (.c (.int .i64 l.length))) 11 (.c (.int .i64 i.1)), jnM M j i.2⟩)
    (fun i => i.1 ≤ l.length ∧ runB L l = runFrom i.2 (l.drop i.1) ∧ ∀ L', i.2 = some L' → L'.length + cntSs (l.drop i.1) ≤ 1000000000000) (fun i => l.length - i.1) (0, some L) ?start ⟨Nat.zero_le _, rfl, fun L' h => by cases h; exact hL⟩ ?round
  case start =>
    refine le_mk ?sle ?mle ?swf ?mwf (kept _) (by rfl)
    case swf => repeat (first | exact swf_top _ | refine swf_upd ?_ (by simp [A.ids, upd_app, sO, jnM_j]))
    case mwf => exact hwJ _
    case sle => repeat (first | exact sle_top _ | exact sle_refl _ | refine sle_upd ?_ (by first | rfl | (simp only [upd_app, killS_app, A.kill, entry_zero, entry_succ, Nat.reduceEqDiff, reduceIte, List.length_map]; done)))
    case mle => exact mle_refl' rfl
  case round =>
    rintro ⟨k, o⟩ ⟨hk, hrun, hlen⟩
    dsimp only at hk hrun hlen ⊢
    repeat (first | refine W.seq ?_ | refine W.block ?_ | refine W.skip ?_ | refine W.exit ?_ | refine W.region tab_ok b (by decide) (exec_run (by simp only [exa, beq_self_eq_true, ByteArray.size, Nat.reduceAdd, Nat.reduceLeDiff, Nat.reduceEqDiff, Nat.reduceMul, Int.reduceToNat, reduceIte, Int.reduceLE, Int.reduceNeg]; rfl)) ?_)
    refine W.cond rfl ?_ ?_
    · intro hlt
      simp only [decide_eq_true_eq, Int.ofNat_lt] at hlt
      obtain ⟨x, hx⟩ : ∃ x, l[k]? = some x := ⟨_, List.getElem?_eq_getElem hlt⟩
      have hxm := List.mem_of_getElem? hx
      have hdrop := drop_of_getElem? hx
      rw [hdrop] at hrun hlen
      cases o with
      | none =>
        have hr : runB L l = (none, false) := hrun
        rw [hr]
        obtain ⟨kd, nn, ty, nm, es, th, el⟩ := x
        repeat (first | refine W.seq ?_ | refine W.block ?_ | refine W.skip ?_ | refine W.exit ?_ | refine W.region tab_ok b (by decide) (exec_run (by simp only [exa, beq_self_eq_true, ByteArray.size, Nat.reduceAdd, Nat.reduceLeDiff, Nat.reduceEqDiff, Nat.reduceMul, Int.reduceToNat, reduceIte, Int.reduceLE, Int.reduceNeg, hlt, at_map hx, cStmt, hJ, sO, upd_upd]; rfl)) ?_)
        refine W.cond rfl (fun _ => ?_) (fun h => absurd h (by simp))
        repeat (first | refine W.seq ?_ | refine W.block ?_ | refine W.skip ?_ | refine W.exit ?_ | refine W.region tab_ok b (by decide) (exec_run (by simp only [exa, beq_self_eq_true, ByteArray.size, Nat.reduceAdd, Nat.reduceLeDiff, Nat.reduceEqDiff, Nat.reduceMul, Int.reduceToNat, reduceIte, Int.reduceLE, Int.reduceNeg]; rfl)) ?_)
        refine W.ret ⟨.inr rfl, by rfl, j, none, ?res, ?hi, ?hx, ?hij, ?keep⟩
        case res => simp only [Try.f12, resE, resOne, fin, toT, resN, exa, beq_self_eq_true, ByteArray.size, Nat.reduceAdd, Nat.reduceLeDiff, Nat.reduceEqDiff, Nat.reduceMul, Int.reduceToNat, reduceIte, Int.reduceLE, Int.reduceNeg] <;> rfl
        case hi => exact (upd_ne _ _ (fun e => cast (hjb _) e)).trans jnM_j
        case hx => exact .inl rfl
        case hij => exact .inl rfl
        case keep => exact fun u z hu hz => .inr ((upd_ne _ _ (fun e => by subst e; rw [hM] at hz; cases hz)).trans (jn_keep1 hu hz))
      | some L' =>
        have hlen := hlen L' rfl
        obtain ⟨o', ok', hs⟩ : ∃ o' ok', stepB L' x = (o', ok') := ⟨_, _, rfl⟩
        have hr : runB L l = if ok' = true then runFrom o' (l.drop (k + 1)) else (none, false) := hrun.trans (runB_cons L' x _ hs)
        simp only [cntSs] at hlen
        have hcx := fun M b h1 h2 => (hst x hxm L' j M b h1 h2 (by omega))
        rw [hs] at hcx
        obtain ⟨kd, nn, ty, nm, es, th, el⟩ := x
        simp only [cStmt, cExprs_map, cStmts_map] at hcx
        have hc := hcx (upd (jnM M j (some L')) (b + 7) (some (.box 36 [.c (.int .i64 kd), .c (.int .i64 nn), .c (.str ty), .c (.str nm), .c (.sl (es.map cExpr)), .c (.sl (th.map cStmt)), .c (.sl (el.map cStmt))]))) (b + 40) (base_upd (b0 := b) (fun d => hJ _ d) (by omega)) (by rw [upd_ne _ _ (fun e => cast (hjb _) e)]; exact jnM_j)
        obtain ⟨hbd, hc⟩ := hc
        repeat (first | refine W.seq ?_ | refine W.block ?_ | refine W.skip ?_ | refine W.exit ?_ | refine W.region tab_ok b (by decide) (exec_run (by simp only [exa, beq_self_eq_true, ByteArray.size, Nat.reduceAdd, Nat.reduceLeDiff, Nat.reduceEqDiff, Nat.reduceMul, Int.reduceToNat, reduceIte, Int.reduceLE, Int.reduceNeg, hlt, at_map hx, cStmt, cExprs_map, cStmts_map, hJ, sO, upd_upd]; rfl)) ?_)
        refine W.cond rfl (fun h => absurd h (by simp)) (fun _ => ?_)
        repeat (first | refine W.seq ?_ | refine W.block ?_ | refine W.skip ?_ | refine W.exit ?_ | refine W.region tab_ok b (by decide) (exec_run (by simp only [exa, beq_self_eq_true, ByteArray.size, Nat.reduceAdd, Nat.reduceLeDiff, Nat.reduceEqDiff, Nat.reduceMul, Int.reduceToNat, reduceIte, Int.reduceLE, Int.reduceNeg]; rfl)) ?_)
        refine W.regionK tab_ok b (by decide) ?_
        refine runk_split 2 (by simp only [exa, beq_self_eq_true, ByteArray.size, Nat.reduceAdd, Nat.reduceLeDiff, Nat.reduceEqDiff, Nat.reduceMul, Int.reduceToNat, reduceIte, Int.reduceLE, Int.reduceNeg]; rfl) ?_
        refine runk_callE (D := [j]) rfl rfl rfl rfl rfl (fun u hu => by simp at hu; subst hu; exact nk) (by simp) (cvs_cons cv_refl (cvs_cons cv_refl cvs_nil)) hc ?_
        simp only [killL, putS, upd_upd]
        cases ok' with
        | false =>
          rw [if_neg (by simp)] at hr
          rw [hr]
          cases o' with
          | none =>
            skip
            skip
            refine runk_exec (by simp only [exa, beq_self_eq_true, ByteArray.size, Nat.reduceAdd, Nat.reduceLeDiff, Nat.reduceEqDiff, Nat.reduceMul, Int.reduceToNat, reduceIte, Int.reduceLE, Int.reduceNeg, resN]; rfl) ?_
            repeat (first | refine W.seq ?_ | refine W.block ?_ | refine W.skip ?_ | refine W.exit ?_ | refine W.region tab_ok b (by decide) (exec_run (by simp only [exa, beq_self_eq_true, ByteArray.size, Nat.reduceAdd, Nat.reduceLeDiff, Nat.reduceEqDiff, Nat.reduceMul, Int.reduceToNat, reduceIte, Int.reduceLE, Int.reduceNeg]; rfl)) ?_)
            refine W.cond rfl (fun _ => ?_) (fun h => absurd h (by simp))
            repeat (first | refine W.seq ?_ | refine W.block ?_ | refine W.skip ?_ | refine W.exit ?_ | refine W.region tab_ok b (by decide) (exec_run (by simp only [exa, beq_self_eq_true, ByteArray.size, Nat.reduceAdd, Nat.reduceLeDiff, Nat.reduceEqDiff, Nat.reduceMul, Int.reduceToNat, reduceIte, Int.reduceLE, Int.reduceNeg]; rfl)) ?_)
            refine W.ret ⟨.inr rfl, by rfl, j, none, ?res, ?hi, ?hx, ?hij, ?keep⟩
            case res => simp only [Try.f12, resE, resOne, fin, toT, resN, exa, beq_self_eq_true, ByteArray.size, Nat.reduceAdd, Nat.reduceLeDiff, Nat.reduceEqDiff, Nat.reduceMul, Int.reduceToNat, reduceIte, Int.reduceLE, Int.reduceNeg] <;> rfl
            case hi => exact jnM_j
            case hx => exact .inr rfl
            case hij => exact .inl rfl
            case keep => exact fun u z hu hz => .inr (jn_keep (hM 7) hu hz)
          | some L1 =>
            skip
            skip
            refine runk_exec (by simp only [exa, beq_self_eq_true, ByteArray.size, Nat.reduceAdd, Nat.reduceLeDiff, Nat.reduceEqDiff, Nat.reduceMul, Int.reduceToNat, reduceIte, Int.reduceLE, Int.reduceNeg, resN]; rfl) ?_
            repeat (first | refine W.seq ?_ | refine W.block ?_ | refine W.skip ?_ | refine W.exit ?_ | refine W.region tab_ok b (by decide) (exec_run (by simp only [exa, beq_self_eq_true, ByteArray.size, Nat.reduceAdd, Nat.reduceLeDiff, Nat.reduceEqDiff, Nat.reduceMul, Int.reduceToNat, reduceIte, Int.reduceLE, Int.reduceNeg]; rfl)) ?_)
            refine W.cond rfl (fun _ => ?_) (fun h => absurd h (by simp))
            repeat (first | refine W.seq ?_ | refine W.block ?_ | refine W.skip ?_ | refine W.exit ?_ | refine W.region tab_ok b (by decide) (exec_run (by simp only [exa, beq_self_eq_true, ByteArray.size, Nat.reduceAdd, Nat.reduceLeDiff, Nat.reduceEqDiff, Nat.reduceMul, Int.reduceToNat, reduceIte, Int.reduceLE, Int.reduceNeg]; rfl)) ?_)
            refine W.ret ⟨.inr rfl, by rfl, j, (some L1), ?res, ?hi, ?hx, ?hij, ?keep⟩
            case res => simp only [Try.f12, resE, resOne, fin, toT, resN, exa, beq_self_eq_true, ByteArray.size, Nat.reduceAdd, Nat.reduceLeDiff, Nat.reduceEqDiff, Nat.reduceMul, Int.reduceToNat, reduceIte, Int.reduceLE, Int.reduceNeg] <;> rfl
            case hi => exact jnM_j
            case hx => exact .inr rfl
            case hij => exact .inl rfl
            case keep => exact fun u z hu hz => .inr (jn_keep (hM 7) hu hz)
        | true =>
          rw [if_pos rfl] at hr
          cases o' with
          | none =>
            skip
            skip
            refine runk_exec (by simp only [exa, beq_self_eq_true, ByteArray.size, Nat.reduceAdd, Nat.reduceLeDiff, Nat.reduceEqDiff, Nat.reduceMul, Int.reduceToNat, reduceIte, Int.reduceLE, Int.reduceNeg, resN]; rfl) ?_
            repeat (first | refine W.seq ?_ | refine W.block ?_ | refine W.skip ?_ | refine W.exit ?_ | refine W.region tab_ok b (by decide) (exec_run (by simp only [exa, beq_self_eq_true, ByteArray.size, Nat.reduceAdd, Nat.reduceLeDiff, Nat.reduceEqDiff, Nat.reduceMul, Int.reduceToNat, reduceIte, Int.reduceLE, Int.reduceNeg]; rfl)) ?_)
            refine W.cond rfl (fun h => absurd h (by simp)) (fun _ => ?_)
            repeat (first | refine W.seq ?_ | refine W.block ?_ | refine W.skip ?_ | refine W.exit ?_ | refine W.region tab_ok b (by decide) (exec_run (by simp only [exa, beq_self_eq_true, ByteArray.size, Nat.reduceAdd, Nat.reduceLeDiff, Nat.reduceEqDiff, Nat.reduceMul, Int.reduceToNat, reduceIte, Int.reduceLE, Int.reduceNeg]; rfl)) ?_)
            refine ⟨(k + 1, none), ⟨hlt, hr, ?hb⟩, by dsimp only; omega, ?le⟩
            case le =>
              refine le_mk ?sle ?mle ?swf ?mwf (kept _) (by rfl)
              case swf => repeat (first | exact swf_top _ | refine swf_upd ?_ (by simp [A.ids, upd_app, sO, jnM_j]))
              case mwf => exact hwJ _
              case sle => repeat (first | exact sle_top _ | exact sle_refl _ | refine sle_upd ?_ (by first | rfl | (simp only [upd_app, killS_app, A.kill, entry_zero, entry_succ, Nat.reduceEqDiff, reduceIte, sO, wrap_succ (show k + 1 < 9223372036854775808 by omega)]; done)))
              case mle => exact jn_mle (hM 7) hjs
            case hb => exact fun _ h => by cases h
          | some L1 =>
            skip
            skip
            refine runk_exec (by simp only [exa, beq_self_eq_true, ByteArray.size, Nat.reduceAdd, Nat.reduceLeDiff, Nat.reduceEqDiff, Nat.reduceMul, Int.reduceToNat, reduceIte, Int.reduceLE, Int.reduceNeg, resN]; rfl) ?_
            repeat (first | refine W.seq ?_ | refine W.block ?_ | refine W.skip ?_ | refine W.exit ?_ | refine W.region tab_ok b (by decide) (exec_run (by simp only [exa, beq_self_eq_true, ByteArray.size, Nat.reduceAdd, Nat.reduceLeDiff, Nat.reduceEqDiff, Nat.reduceMul, Int.reduceToNat, reduceIte, Int.reduceLE, Int.reduceNeg]; rfl)) ?_)
            refine W.cond rfl (fun h => absurd h (by simp)) (fun _ => ?_)
            repeat (first | refine W.seq ?_ | refine W.block ?_ | refine W.skip ?_ | refine W.exit ?_ | refine W.region tab_ok b (by decide) (exec_run (by simp only [exa, beq_self_eq_true, ByteArray.size, Nat.reduceAdd, Nat.reduceLeDiff, Nat.reduceEqDiff, Nat.reduceMul, Int.reduceToNat, reduceIte, Int.reduceLE, Int.reduceNeg]; rfl)) ?_)
            refine ⟨(k + 1, (some L1)), ⟨hlt, hr, ?hb⟩, by dsimp only; omega, ?le⟩
            case le =>
              refine le_mk ?sle ?mle ?swf ?mwf (kept _) (by rfl)
              case swf => repeat (first | exact swf_top _ | refine swf_upd ?_ (by simp [A.ids, upd_app, sO, jnM_j]))
              case mwf => exact hwJ _
              case sle => repeat (first | exact sle_top _ | exact sle_refl _ | refine sle_upd ?_ (by first | rfl | (simp only [upd_app, killS_app, A.kill, entry_zero, entry_succ, Nat.reduceEqDiff, reduceIte, sO, wrap_succ (show k + 1 < 9223372036854775808 by omega)]; done)))
              case mle => exact jn_mle (hM 7) hjs
            case hb =>
              intro L2 h
              cases h
              have h1 := hbd L1 rfl
              simp only [cntS] at h1 hlen
              show L1.length + cntSs (l.drop (k + 1)) ≤ 1000000000000
              omega
    · intro hge
      simp only [decide_eq_false_iff_not, Int.ofNat_lt] at hge
      obtain rfl : k = l.length := by omega
      rw [List.drop_length] at hrun
      cases o with
      | none =>
        have hr : runB L l = (none, true) := hrun
        rw [hr]
        repeat (first | refine W.seq ?_ | refine W.block ?_ | refine W.skip ?_ | refine W.exit ?_ | refine W.region tab_ok b (by decide) (exec_run (by simp only [exa, beq_self_eq_true, ByteArray.size, Nat.reduceAdd, Nat.reduceLeDiff, Nat.reduceEqDiff, Nat.reduceMul, Int.reduceToNat, reduceIte, Int.reduceLE, Int.reduceNeg, sO]; rfl)) ?_)
        refine W.ret ⟨.inr rfl, by rfl, j, none, ?res, ?hi, ?hx, ?hij, ?keep⟩
        case res => simp only [Try.f12, resE, resOne, fin, toT, resN, exa, beq_self_eq_true, ByteArray.size, Nat.reduceAdd, Nat.reduceLeDiff, Nat.reduceEqDiff, Nat.reduceMul, Int.reduceToNat, reduceIte, Int.reduceLE, Int.reduceNeg] <;> rfl
        case hi => exact jnM_j
        case hx => exact .inl rfl
        case hij => exact .inl rfl
        case keep => exact fun u z hu hz => .inr (jn_keep1 hu hz)
      | some L' =>
        have hr : runB L l = (some L', true) := hrun
        rw [hr]
        repeat (first | refine W.seq ?_ | refine W.block ?_ | refine W.skip ?_ | refine W.exit ?_ | refine W.region tab_ok b (by decide) (exec_run (by simp only [exa, beq_self_eq_true, ByteArray.size, Nat.reduceAdd, Nat.reduceLeDiff, Nat.reduceEqDiff, Nat.reduceMul, Int.reduceToNat, reduceIte, Int.reduceLE, Int.reduceNeg, sO]; rfl)) ?_)
        refine W.ret ⟨.inr rfl, by rfl, j, (some L'), ?res, ?hi, ?hx, ?hij, ?keep⟩
        case res => simp only [Try.f12, resE, resOne, fin, toT, resN, exa, beq_self_eq_true, ByteArray.size, Nat.reduceAdd, Nat.reduceLeDiff, Nat.reduceEqDiff, Nat.reduceMul, Int.reduceToNat, reduceIte, Int.reduceLE, Int.reduceNeg] <;> rfl
        case hi => exact jnM_j
        case hx => exact .inl rfl
        case hij => exact .inl rfl
        case keep => exact fun u z hu hz => .inr (jn_keep1 hu hz)
end V
end Go.Proofs.Ytgaipdillmleeaa
end
section
/- The document's answer in plain words. -/
set_option linter.unusedVariables false
set_option linter.unusedSimpArgs false
namespace Go.Proofs.Ytgaipdillmleeaa
namespace AS
open V
abbrev Tr := List Nm × Bool × Bool
def branchR (a b : Tr) : Tr :=
  if (!a.2.2 || !b.2.2) = true then ([], false, false)
  else if (a.2.1 && b.2.1) = true then ([], true, true)
  else if a.2.1 = true then (b.1, false, true)
  else if b.2.1 = true then (a.1, false, true)
  else (a.1.filter fun s => b.1.contains s, false, true)
mutual
def oneR (H : List Nm) : Stmt → Tr
  | ⟨k, _, _, nm, es, th, el⟩ =>
    if askBs H (asksB k es) = false then ([], false, false)
    else if k = 1 then (if es.isEmpty = true then delN (bs nm) H else delN (bs nm) H ++ [bs nm], false, true)
    else if k = 2 then (if ownB k es = true then delN (headN es) H ++ [headN es] else H, false, true)
    else if k = 3 then branchR (sureR H th) (sureR H el)
    else if k = 4 then (H, false, (sureR H th).2.2)
    else if k = 6 then ([], true, true)
    else (H, false, true)
def sureR (H : List Nm) : List Stmt → Tr
  | [] => (H, false, true)
  | x :: l => match oneR H x with
    | (_, _, false) => ([], false, false)
    | (_, true, true) => (match l with | [] => ([], true, true) | _ :: _ => ([], false, false))
    | (H', false, true) => sureR H' l
end
theorem sureR_cons (H : List Nm) (x : Stmt) (l : List Stmt) {H' : List Nm} {r ok : Bool} (h : oneR H x = (H', r, ok)) : sureR H (x :: l) = if ok = false then ([], false, false) else if r = true then (if l.length = 0 then ([], true, true) else ([], false, false)) else sureR H' l := by
  simp only [sureR]
  rw [h]
  cases ok
  · cases r <;> rfl
  · cases r
    · rfl
    · cases l <;> simp
/-- What is asked of the i-th expression. -/
def askAt (H : List Nm) (k : Int) (i : Nat) (x : Expr) : Bool := if (decide (k = 2) && decide (i = 0) && decide (x.kind = 4)) = true then askBs H x.kids else askB H x
theorem askBs_all (H : List Nm) (l : List Expr) : askBs H l = true ↔ ∀ (i : Nat) (x : Expr), l[i]? = some x → askB H x = true := by
  rw [askBs_any]
  simp only [Bool.not_eq_true', List.any_eq_false, Bool.not_eq_false]
  refine ⟨fun h i x hx => by have := h x (List.mem_of_getElem? hx); simpa using this, fun h x hx => ?_⟩
  obtain ⟨i, hi⟩ := List.getElem?_of_mem hx
  simpa using h i x hi
theorem asks_all (H : List Nm) (k : Int) (es : List Expr) : askBs H (asksB k es) = true ↔ ∀ i x, es[i]? = some x → askAt H k i x = true := by
  cases es with
  | nil => simp [asksB, ownB, askBs]
  | cons y tl =>
    have ho : ownB k (y :: tl) = (decide (k = 2) && decide (y.kind = 4)) := rfl
    cases hb : ownB k (y :: tl) with
    | true =>
      have hb' := hb
      rw [ho, Bool.and_eq_true] at hb'
      have e : asksB k (y :: tl) = y.kids ++ tl := by simp [asksB, hb]
      rw [e, askBs_append, Bool.and_eq_true, askBs_all H tl]
      constructor
      · rintro ⟨h1, h2⟩ i x hx
        cases i with
        | zero =>
          cases hx
          unfold askAt
          rw [if_pos (by simp [hb'.1, hb'.2])]; exact h1
        | succ i =>
          unfold askAt
          rw [if_neg (by simp)]
          exact h2 i x (by simpa using hx)
      · intro h
        constructor
        · have := h 0 y rfl
          unfold askAt at this
          rwa [if_pos (by simp [hb'.1, hb'.2])] at this
        · intro i x hx
          have := h (i + 1) x (by simpa using hx)
          unfold askAt at this
          rwa [if_neg (by simp)] at this
    | false =>
      have e : asksB k (y :: tl) = y :: tl := by simp [asksB, hb]
      rw [ho] at hb
      rw [e, askBs_all H]
      have same : ∀ i x, (y :: tl)[i]? = some x → askAt H k i x = askB H x := fun i x hx => by
        cases i with
        | zero =>
          cases hx
          unfold askAt
          rw [if_neg (by
            intro h
            simp only [Bool.and_eq_true] at h
            rw [Bool.and_eq_false_iff] at hb
            rcases hb with q | q
            · rw [q] at h; cases h.1.1
            · rw [q] at h; cases h.2)]
        | succ i => unfold askAt; rw [if_neg (by simp)]
      exact ⟨fun h i x hx => (same i x hx).trans (h i x hx), fun h i x hx => (same i x hx).symm.trans (h i x hx)⟩
mutual
theorem oneR_len : ∀ (x : Stmt) (H : List Nm), (oneR H x).1.length ≤ H.length + cntS x
  | ⟨k, n, ty, nm, es, th, el⟩, H => by
    have h1 := sureR_len th H
    have h2 := sureR_len el H
    have hd : ∀ s, (delN s H).length ≤ H.length := fun s => List.length_filter_le (fun t => t != s) H
    simp only [oneR, cntS]
    split
    · simp
    split
    · have := hd (bs nm)
      split
      · show (delN (bs nm) H).length ≤ _; omega
      · simp only [List.length_append, List.length_cons, List.length_nil]; omega
    split
    · have := hd (headN es)
      split
      · simp only [List.length_append, List.length_cons, List.length_nil]; omega
      · show H.length ≤ _; omega
    split
    · unfold branchR
      have := List.length_filter_le (fun s => (sureR H el).1.contains s) (sureR H th).1
      split
      · simp
      split
      · simp
      split
      · show (sureR H el).1.length ≤ _; omega
      split
      · show (sureR H th).1.length ≤ _; omega
      · show (List.filter _ _).length ≤ _; omega
    split
    · show H.length ≤ _; omega
    split
    · simp
    · show H.length ≤ _; omega
theorem sureR_len : ∀ (l : List Stmt) (H : List Nm), (sureR H l).1.length ≤ H.length + cntSs l
  | [], H => by simp [sureR, cntSs]
  | x :: l, H => by
    obtain ⟨H', r, ok, hs⟩ : ∃ H' r ok, oneR H x = (H', r, ok) := ⟨_, _, _, rfl⟩
    have h1 := oneR_len x H
    rw [hs] at h1
    rw [sureR_cons H x l hs]
    simp only [cntSs]
    split
    · simp
    split
    · split <;> simp
    · have := sureR_len l H'
      have h1 : H'.length ≤ H.length + cntS x := h1
      omega
end
end AS
end Go.Proofs.Ytgaipdillmleeaa
end
section
/- slices.Grow of nothing, for expressions: a fresh row with room. -/
set_option linter.unusedVariables false
set_option linter.unusedSimpArgs false
namespace Go.Proofs.Ytgaipdillmleeaa
open Go.Shelf Go.RowKit Go.Lib
theorem exprInfo : ∃ i z, Try.prog.info? 34 = some i ∧ i.zero = some z ∧ i.size = 4 ∧ i.bytes = 56 ∧ z.cells.size = 4 := by
  obtain ⟨i, z, h1, h2, h3, -⟩ := V.tab_ok.zero 34 _ rfl
  obtain ⟨-, ⟨i', h4, h5⟩, -⟩ := V.tab_ok.ty 34 _ _ rfl
  obtain ⟨i2, h6, h7⟩ := V.tab_ok.bytes 34 _ rfl
  rw [h1] at h4 h6
  cases h4; cases h6
  exact ⟨i, z, h1, h2, h5, h7, by rw [h3]; rfl⟩
set_option maxHeartbeats 4000000 in
set_option maxRecDepth 100000 in
theorem grow_run (n : Nat) (h0 : 0 < n) (hn : n ≤ 1000000000000) (w : World) (i : TypeInfo) (z : Value) (hi : Try.prog.info? 34 = some i) (hz : i.zero = some z) (hs : i.size = 4) (hb : i.bytes = 56) :
    Calls Try.prog 35 #[.slice none 0 0, .int .i64 n] w fun e w' =>
      e = .returned (.slice (some ⟨w.heap.size, 0, none⟩) 0 (grownCap w n 0 34)) ∧
      w' = w.drew.alloc (.cells (#[] ++ Builtin.zeroCells z.cells n ++ Builtin.zeroCells z.cells (grownCap w n 0 34 - n)) 34) := by
  have h1 : ¬ ((n : Int) < 0) := by omega
  have h2 : wrap64 ((n : Int) - 0) = (n : Int) := by unfold wrap64; omega
  have h4 : (n : Int) > 0 := by omega
  have hold : (Builtin.firstCells i.size 0 (.slice none 0 0)).run Try.prog w.drew = .ok (([] : List Value).toArray) w.drew := run_firstCells_none w.drew i.size 0 0 0
  have hrz : ∀ ty, (Builtin.append_ #[32, 3] ty #[.slice none 0 0, .int .i64 (n : Int)]).run Try.prog w =
      .ok (.slice (some ⟨w.heap.size, 0, none⟩) n (grownCap w n 0 34)) (w.drew.alloc (.cells (#[] ++ Builtin.zeroCells z.cells n ++ Builtin.zeroCells z.cells (grownCap w n 0 34 - n)) 34)) := fun ty => by
    have h := Lib.run_append_grow_zeros w 32 3 ty 34 i z .i64 .i64 Try.underlying32 Try.underlying3 hi hz none 0 0 [] hold n (by omega) (by omega) (by omega) (by omega)
      (by rw [hb]; omega)
      (by rw [Nat.zero_add]; exact growslice_fits h0 (by rw [hb]; omega))
    rw [Nat.zero_add] at h
    exact h
  have hGn : n ≤ grownCap w n 0 34 := grownCap_ge w _ _ _
  obtain ⟨G, hG⟩ : ∃ G, G = grownCap w n 0 34 := ⟨_, rfl⟩
  rw [← hG] at hrz hGn ⊢
  clear hold hG
  go_enter Try.func35, Try.ntmps35
  go_wp2_with (at_builtin; refine Lib.wpList_append_run _ rfl _ _ _ _ rfl _ _ rfl rfl _ _ (hrz _) ?_)
  all_goals (go_ret; exact ⟨rfl, rfl⟩)
set_option maxHeartbeats 1000000 in
theorem grow_zero (w : World) :
    Calls Try.prog 35 #[.slice none 0 0, .int .i64 0] w fun e w' => e = .returned (.slice none 0 0) ∧ w' = w := by
  go_enter Try.func35, Try.ntmps35
  go_wp2
  all_goals (go_ret; exact ⟨rfl, rfl⟩)
namespace V
/-- .. as a piece of memory of its own that grows. -/
theorem grow_ok (n : Nat) (hn : n ≤ 1000000000000) (M : Mem) (id : Nat) (hid : M id = none) : CallE Try.prog 35 [.nil, .c (.int .i64 n)] M [] (.own id) (upd M id (some (.arr 34 4 []))) := by
  have hne : ∀ j, (M j).isSome = true → j ≠ id := fun j hj e => by subst e; rw [hid] at hj; cases hj
  have liv : ∀ j, (M j).isSome = true → (upd M id (some (.arr 34 4 [])) j).isSome = true := fun j hj => by rw [upd_ne _ _ (hne j hj)]; exact hj
  refine ⟨enters_of Try.func35 (by kernel_rfl) rfl, fun j hj => ?_, liv, fun hw i o ho j hj => ?_, ?_⟩
  · obtain rfl : j = id := by simpa [A.ids] using hj
    rw [upd_same]; rfl
  · unfold upd at ho
    split at ho
    · cases ho; simp [O.ids] at hj
    · exact liv j (hw i o ho j hj)
  · intro w0 I0 B I w vals hm hv
    match vals, hv with
    | [v0, v1], ⟨h0, h1, _⟩ =>
      obtain rfl : v0 = .slice none 0 0 := h0
      have h1 : RC w I v1 (.int .i64 n) := h1
      obtain rfl := h1.toInt.1
      rcases Nat.eq_zero_or_pos n with rfl | hpos
      · refine (grow_zero w).mono ?_
        rintro e w' ⟨rfl, rfl⟩
        exact ⟨_, _, I, rfl, hm.newNil hid true _ _, Ext.refl _ _, fun j hj _ => upd_ne _ _ (hne j hj), (upd_same ..).symm, none, 0, 0, rfl⟩
      · obtain ⟨i, z, hi, hz, hs, hb, hzs⟩ := exprInfo
        refine (grow_run n hpos hn w i z hi hz hs hb).mono ?_
        rintro e w' ⟨rfl, rfl⟩
        have hE : Ext w w.drew I I := ⟨fun _ _ k => k, fun _ _ _ => rfl⟩
        have hmd := hm.call (Below.refl _ _).drew
        have hge : n ≤ grownCap w n 0 34 := grownCap_ge w _ _ _
        have hle : grownCap w n 0 34 ≤ maxLen := grownCap_le_maxLen w n 0 _ (by unfold maxLen; omega)
        generalize grownCap w n 0 34 = G at hge hle ⊢
        have hrow : (#[] ++ Builtin.zeroCells z.cells n ++ Builtin.zeroCells z.cells (G - n)).size = G * 4 := by
          simp only [Array.size_append, List.size_toArray, List.length_nil, size_zeroCells, hzs]
          omega
        have hnb : ∀ o, ¬ I w.heap.size o := fun o ho => absurd (hm.there _ _ ho) (Nat.lt_irrefl _)
        refine ⟨_, _, I, rfl, hmd.alloc hid (v := .slice (some ⟨w.heap.size, 0, none⟩) 0 G) ⟨[], ⟨rfl, .inr ⟨w.heap.size, G, _, by rw [upd_same]; rfl, Nat.zero_le _, heap_alloc_new w.drew _, Nat.zero_le _, hle, hrow, by simp⟩⟩, trivial, fun x hx => by simp at hx, fun b hb o => ?_⟩ (fun k hk => ?_) (fun j hj => by simp [O.ids] at hj),
          ?_, fun j hj _ => upd_ne _ _ (hne j hj), (upd_same ..).symm, _, 0, G, rfl⟩
        · rw [upd_same] at hb
          obtain rfl : w.heap.size = b := by simpa [Value.ownBlock] using hb
          exact ⟨fun h => absurd h (hnb o), fun h => by simp at h⟩
        · have hk : (upd B id (.slice (some ⟨w.heap.size, 0, none⟩) 0 G) id).ownBlock = some k := hk
          rw [upd_same] at hk
          have : w.heap.size = k := by simpa [Value.ownBlock] using hk
          exact this.symm
        · exact ⟨fun _ _ k => k, fun b o ho => World.cell?_of_block (by
            have := hm.there b o ho
            show ((w.drew.heap.push _)[b]?) = w.heap[b]?
            rw [Array.getElem?_push_lt (by exact this)]
            exact (Array.getElem?_eq_getElem this).symm)⟩
end V
end Go.Proofs.Ytgaipdillmleeaa
end
section
/- slices.Concat of expressions, over plain data. -/
set_option linter.unusedVariables false
set_option linter.unusedSimpArgs false
namespace Go.Proofs.Ytgaipdillmleeaa
namespace V
open Go.RowKit
def cPart (l : List Expr) : List C := [.sl (l.map cExpr)]
theorem flat_take {α : Type} (ps : List (List α)) {k : Nat} {l : List α} (h : ps[k]? = some l) : (ps.take (k + 1)).flatten = (ps.take k).flatten ++ l := by
  rw [List.take_add_one, h]; simp
theorem flat_le {α : Type} (ps : List (List α)) (k : Nat) : (ps.take k).flatten.length ≤ ps.flatten.length := by
  have e : ps.flatten = (ps.take k).flatten ++ (ps.drop k).flatten := by rw [← List.flatten_append, List.take_append_drop]
  rw [e, List.length_append]
  exact Nat.le_add_right _ _
set_option maxHeartbeats 2000000 in
theorem concat_ok (ps : List (List Expr)) (hps : ps.length ≤ 1000000000000) (hn : ps.flatten.length ≤ 1000000000000) (m : Mem) : COk Try.prog 23 [.c (.sl (ps.map cPart))] m (.c (.sl (ps.flatten.map cExpr))) := by
  refine (ok_pure tab_ok Try.func23 (by kernel_rfl) rfl rfl (by rfl) (by rfl) (by rfl) (fun R hkeep => ?_) m)
  repeat (first | refine W.seq ?_ | refine W.block ?_ | refine W.skip ?_ | refine W.exit ?_ | refine W.region tab_ok 0 (by decide) (exec_run (by simp only [exa, beq_self_eq_true, ByteArray.size, Nat.reduceAdd, Nat.reduceLeDiff, Nat.reduceEqDiff, Nat.reduceMul, Int.reduceToNat, reduceIte, Int.reduceLE, Int.reduceNeg, V.tabs]; rfl)) ?_)
  refine W.loop (ι := Nat) (fun k => ⟨upd (upd (upd (upd (upd (fun _ => .top) 0 (.c (.sl (ps.map cPart)))) 3 (.c (.int .i64 (ps.take k).flatten.length))) 9 (.c (.sl (ps.map cPart)))) 10 (.c (.int .i64 ps.length))) 11 (.c (.int .i64 k)), Mem.nil⟩)
    (fun k => k ≤ ps.length) (fun k => ps.length - k) 0 ?start (Nat.zero_le _) ?round
  case start =>
    refine le_mk ?sle ?mle ?swf ?mwf ?kept (by rfl)
    case kept => exact kept_not hkeep
    case swf => repeat (first | exact swf_top _ | refine swf_upd ?_ (by simp [A.ids, upd_app]))
    case mwf => repeat (first | exact mwf_nil _ | refine mwf_upd ?_ (by simp [A.ids, O.ids, upd_app]))
    case mle => repeat (first | exact mle_nil _ | exact mle_refl _ | refine mle_upd ?_ (by first | rfl | (simp only [upd_app, killM_app, Nat.reduceEqDiff, reduceIte]; done)))
    case sle => repeat (first | exact sle_top _ | exact sle_refl _ | refine sle_upd ?_ (by first | rfl | (simp only [upd_app, entry_zero, entry_succ, Nat.reduceEqDiff, reduceIte]; done)))
  case round =>
    intro k hk
    repeat (first | refine W.seq ?_ | refine W.block ?_ | refine W.skip ?_ | refine W.exit ?_ | refine W.region tab_ok 0 (by decide) (exec_run (by simp only [exa, beq_self_eq_true, ByteArray.size, Nat.reduceAdd, Nat.reduceLeDiff, Nat.reduceEqDiff, Nat.reduceMul, Int.reduceToNat, reduceIte, Int.reduceLE, Int.reduceNeg, V.tabs]; rfl)) ?_)
    refine W.cond rfl ?_ ?_
    · intro hlt
      simp only [decide_eq_true_eq, Int.ofNat_lt] at hlt
      obtain ⟨l, hl⟩ : ∃ l, ps[k]? = some l := ⟨_, List.getElem?_eq_getElem hlt⟩
      have hle := flat_le ps (k + 1)
      rw [flat_take ps hl, List.length_append] at hle
      have hw : IntKind.i64.wrap (((ps.take k).flatten.length : Int) + (l.length : Int)) = ((ps.take (k + 1)).flatten.length : Int) := by
        rw [flat_take ps hl, List.length_append, ← Int.natCast_add, wrap_nat (by omega)]
      have hneg : ¬ (((ps.take (k + 1)).flatten.length : Int) < 0) := by omega
      repeat (first | refine W.seq ?_ | refine W.block ?_ | refine W.skip ?_ | refine W.exit ?_ | refine W.region tab_ok 0 (by decide) (exec_run (by simp only [exa, beq_self_eq_true, ByteArray.size, Nat.reduceAdd, Nat.reduceLeDiff, Nat.reduceEqDiff, Nat.reduceMul, Int.reduceToNat, reduceIte, Int.reduceLE, Int.reduceNeg, V.tabs, at_map hl, cPart, hw]; rfl)) ?_)
      refine W.cond rfl (fun h => absurd (by simpa using h) hneg) (fun _ => ?_)
      repeat (first | refine W.seq ?_ | refine W.block ?_ | refine W.skip ?_ | refine W.exit ?_ | refine W.region tab_ok 0 (by decide) (exec_run (by simp only [exa, beq_self_eq_true, ByteArray.size, Nat.reduceAdd, Nat.reduceLeDiff, Nat.reduceEqDiff, Nat.reduceMul, Int.reduceToNat, reduceIte, Int.reduceLE, Int.reduceNeg, V.tabs]; rfl)) ?_)
      refine ⟨k + 1, hlt, by omega, ?_⟩
      refine le_mk ?sle ?mle ?swf ?mwf ?kept (by rfl)
      case kept => exact kept_not hkeep
      case swf => repeat (first | exact swf_top _ | refine swf_upd ?_ (by simp [A.ids, upd_app]))
      case mwf => repeat (first | exact mwf_nil _ | refine mwf_upd ?_ (by simp [A.ids, O.ids, upd_app]))
      case mle => repeat (first | exact mle_nil _ | exact mle_refl _ | refine mle_upd ?_ (by first | rfl | (simp only [upd_app, killM_app, Nat.reduceEqDiff, reduceIte, wrap_succ (show k + 1 < 9223372036854775808 by omega)]; done)))
      case sle => repeat (first | exact sle_top _ | exact sle_refl _ | refine sle_upd ?_ (by first | rfl | (simp only [upd_app, entry_zero, entry_succ, Nat.reduceEqDiff, reduceIte, wrap_succ (show k + 1 < 9223372036854775808 by omega)]; done)))
    · intro hge
      simp only [decide_eq_false_iff_not, Int.ofNat_lt] at hge
      obtain rfl : k = ps.length := by omega
      rw [List.take_length]
      repeat (first | refine W.seq ?_ | refine W.block ?_ | refine W.skip ?_ | refine W.exit ?_ | refine W.region tab_ok 0 (by decide) (exec_run (by simp only [exa, beq_self_eq_true, ByteArray.size, Nat.reduceAdd, Nat.reduceLeDiff, Nat.reduceEqDiff, Nat.reduceMul, Int.reduceToNat, reduceIte, Int.reduceLE, Int.reduceNeg, V.tabs]; rfl)) ?_)
      refine W.regionK tab_ok 0 (by decide) ?_
      refine runk_split 1 (by simp only [exa, beq_self_eq_true, ByteArray.size, Nat.reduceAdd, Nat.reduceLeDiff, Nat.reduceEqDiff, Nat.reduceMul, Int.reduceToNat, reduceIte, Int.reduceLE, Int.reduceNeg, V.tabs]; rfl) ?_
      refine runk_call0 rfl rfl rfl rfl rfl rfl (by simp) (cvs_cons cv_refl (cvs_cons cv_refl cvs_nil)) (grow_ok _ hn _ 24 rfl) ?_
      refine runk_exec (by simp only [exa, beq_self_eq_true, ByteArray.size, Nat.reduceAdd, Nat.reduceLeDiff, Nat.reduceEqDiff, Nat.reduceMul, Int.reduceToNat, reduceIte, Int.reduceLE, Int.reduceNeg, V.tabs]; rfl) ?_
      repeat (first | refine W.seq ?_ | refine W.block ?_ | refine W.skip ?_ | refine W.exit ?_ | refine W.region tab_ok 0 (by decide) (exec_run (by simp only [exa, beq_self_eq_true, ByteArray.size, Nat.reduceAdd, Nat.reduceLeDiff, Nat.reduceEqDiff, Nat.reduceMul, Int.reduceToNat, reduceIte, Int.reduceLE, Int.reduceNeg, V.tabs]; rfl)) ?_)
      refine W.loop (ι := Nat) (fun k => ⟨upd (upd (upd (upd (fun _ => .top) 6 (.own 24)) 25 (.c (.sl (ps.map cPart)))) 26 (.c (.int .i64 ps.length))) 27 (.c (.int .i64 k)), upd Mem.nil 24 (some (.arr 34 4 ((ps.take k).flatten.map cExpr)))⟩)
        (fun k => k ≤ ps.length) (fun k => ps.length - k) 0 ?start2 (Nat.zero_le _) ?round2
      case start2 =>
        refine le_mk ?sle ?mle ?swf ?mwf ?kept (by rfl)
        case kept => exact kept_not hkeep
        case swf => repeat (first | exact swf_top _ | refine swf_upd ?_ (by simp [A.ids, upd_app]))
        case mwf => repeat (first | exact mwf_nil _ | refine mwf_upd ?_ (by simp [A.ids, O.ids, upd_app]))
        case mle => repeat (first | exact mle_nil _ | exact mle_refl _ | refine mle_upd ?_ (by first | rfl | (simp only [upd_app, killM_app, Nat.reduceEqDiff, reduceIte]; done)))
        case sle => repeat (first | exact sle_top _ | exact sle_refl _ | refine sle_upd ?_ (by first | rfl | (simp only [upd_app, entry_zero, entry_succ, Nat.reduceEqDiff, reduceIte]; done)))
      case round2 =>
        intro k hk
        repeat (first | refine W.seq ?_ | refine W.block ?_ | refine W.skip ?_ | refine W.exit ?_ | refine W.region tab_ok 0 (by decide) (exec_run (by simp only [exa, beq_self_eq_true, ByteArray.size, Nat.reduceAdd, Nat.reduceLeDiff, Nat.reduceEqDiff, Nat.reduceMul, Int.reduceToNat, reduceIte, Int.reduceLE, Int.reduceNeg, V.tabs]; rfl)) ?_)
        refine W.cond rfl ?_ ?_
        · intro hlt
          simp only [decide_eq_true_eq, Int.ofNat_lt] at hlt
          obtain ⟨l, hl⟩ : ∃ l, ps[k]? = some l := ⟨_, List.getElem?_eq_getElem hlt⟩
          have hle := flat_le ps (k + 1)
          have hft := flat_take ps hl
          rw [hft, List.length_append] at hle
          repeat (first | refine W.seq ?_ | refine W.block ?_ | refine W.skip ?_ | refine W.exit ?_ | refine W.region tab_ok 0 (by decide) (exec_run (by simp only [exa, beq_self_eq_true, ByteArray.size, Nat.reduceAdd, Nat.reduceLeDiff, Nat.reduceEqDiff, Nat.reduceMul, Int.reduceToNat, reduceIte, Int.reduceLE, Int.reduceNeg, V.tabs, at_map hl, cPart]; rfl)) ?_)
          refine W.regionK tab_ok 0 (by decide) ?_
          refine runk_split 2 (by simp only [exa, beq_self_eq_true, ByteArray.size, Nat.reduceAdd, Nat.reduceLeDiff, Nat.reduceEqDiff, Nat.reduceMul, Int.reduceToNat, reduceIte, Int.reduceLE, Int.reduceNeg, V.tabs]; rfl) ?_
          refine runk_append tab_ok 24 rfl rfl rfl rfl rfl rfl rfl rfl (by first | rfl | (simp only [exa, beq_self_eq_true, ByteArray.size, Nat.reduceAdd, Nat.reduceLeDiff, Nat.reduceEqDiff, Nat.reduceMul, Int.reduceToNat, reduceIte, Int.reduceLE, Int.reduceNeg, V.tabs]; rfl)) rfl rfl rfl rfl (nokeep hkeep) (by intro z hz; obtain ⟨s, -, rfl⟩ := List.mem_map.1 hz; cases s; rfl) (by simp only [List.length_map]; omega) (by decide) ?_
          refine runk_exec (by simp only [exa, beq_self_eq_true, ByteArray.size, Nat.reduceAdd, Nat.reduceLeDiff, Nat.reduceEqDiff, Nat.reduceMul, Int.reduceToNat, reduceIte, Int.reduceLE, Int.reduceNeg, V.tabs]; rfl) ?_
          repeat (first | refine W.seq ?_ | refine W.block ?_ | refine W.skip ?_ | refine W.exit ?_ | refine W.region tab_ok 0 (by decide) (exec_run (by simp only [exa, beq_self_eq_true, ByteArray.size, Nat.reduceAdd, Nat.reduceLeDiff, Nat.reduceEqDiff, Nat.reduceMul, Int.reduceToNat, reduceIte, Int.reduceLE, Int.reduceNeg, V.tabs]; rfl)) ?_)
          refine ⟨k + 1, hlt, by omega, ?_⟩
          rw [hft, List.map_append]
          refine le_mk ?sle ?mle ?swf ?mwf ?kept (by rfl)
          case kept => exact kept_not hkeep
          case swf => repeat (first | exact swf_top _ | refine swf_upd ?_ (by simp [A.ids, upd_app]))
          case mwf => repeat (first | exact mwf_nil _ | refine mwf_upd ?_ (by simp [A.ids, O.ids, upd_app]))
          case mle => repeat (first | exact mle_nil _ | exact mle_refl _ | refine mle_upd ?_ (by first | rfl | (simp only [upd_app, killM_app, Nat.reduceEqDiff, reduceIte, wrap_succ (show k + 1 < 9223372036854775808 by omega)]; done)))
          case sle => repeat (first | exact sle_top _ | exact sle_refl _ | refine sle_upd ?_ (by first | rfl | (simp only [upd_app, entry_zero, entry_succ, Nat.reduceEqDiff, reduceIte, wrap_succ (show k + 1 < 9223372036854775808 by omega)]; done)))
        · intro hge
          simp only [decide_eq_false_iff_not, Int.ofNat_lt] at hge
          obtain rfl : k = ps.length := by omega
          rw [List.take_length]
          repeat (first | refine W.seq ?_ | refine W.block ?_ | refine W.skip ?_ | refine W.exit ?_ | refine W.region tab_ok 0 (by decide) (exec_run (by simp only [exa, beq_self_eq_true, ByteArray.size, Nat.reduceAdd, Nat.reduceLeDiff, Nat.reduceEqDiff, Nat.reduceMul, Int.reduceToNat, reduceIte, Int.reduceLE, Int.reduceNeg, V.tabs]; rfl)) ?_)
          refine W.ret ⟨.inr rfl, by rfl, ?_⟩
          simp only [Try.f23, resA, resOne, toT, fin, exa, beq_self_eq_true, ByteArray.size, Nat.reduceAdd, Nat.reduceLeDiff, Nat.reduceEqDiff, Nat.reduceMul, Int.reduceToNat, reduceIte, Int.reduceLE, Int.reduceNeg, V.tabs]
end V
end Go.Proofs.Ytgaipdillmleeaa
end
section
/- A table of rows of the call's own: each row a piece by itself; rows that grow; the table told as data in the end. -/
namespace Go.Proofs.Ytgaipdillmleeaa
namespace V
open Go.RowKit
/-- A family of pieces, numbered from b on. -/
def famM (b n : Nat) (f : Nat → O) (m : Mem) : Mem := fun j => if b ≤ j ∧ j < b + n then some (f (j - b)) else m j
theorem fam_at {b n k : Nat} {f : Nat → O} {m : Mem} (h : k < n) : famM b n f m (k + b) = some (f k) := by
  unfold famM
  rw [if_pos ⟨by omega, by omega⟩, Nat.add_sub_cancel]
theorem fam_lo {b n j : Nat} {f : Nat → O} {m : Mem} (h : j < b) : famM b n f m j = m j := by
  unfold famM
  rw [if_neg (by omega)]
def tabR (b n : Nat) : List A1 := (List.range n).map fun i => A1.own (i + b)
theorem tabR_len (b n : Nat) : (tabR b n).length = n := by simp [tabR]
theorem tabR_at {b n k : Nat} (h : k < n) : (tabR b n)[k]? = some (.own (k + b)) := by simp [tabR, h]
theorem tabR_ids {b n j : Nat} : j ∈ (tabR b n).flatMap A1.ids ↔ ∃ i, i < n ∧ j = i + b := by
  simp only [tabR, List.mem_flatMap, List.mem_map, List.mem_range]
  constructor
  · rintro ⟨a, ⟨i, hi, rfl⟩, hj⟩
    simp [A1.ids] at hj
    exact ⟨i, hi, hj⟩
  · rintro ⟨i, hi, rfl⟩
    exact ⟨_, ⟨i, hi, rfl⟩, by simp [A1.ids]⟩
theorem tabR_set {b n k : Nat} (hk : k < n) : ((tabR b n).map (A1.kill (k + b))).set k (.own (k + b)) = tabR b n := by
  refine List.ext_getElem? fun i => ?_
  rw [List.getElem?_set]
  split
  · rename_i e
    subst e
    simp [tabR, hk]
  · rename_i e
    by_cases hi : i < n
    · simp only [tabR, List.map_map, List.getElem?_map, List.getElem?_range hi, Option.map_some, Function.comp]
      congr 1
      unfold A1.kill
      rw [if_neg (by simp [A1.ids]; omega)]
    · simp [tabR, hi]
theorem kill_rowO {id : Nat} {fz : Bool} {e c : Nat} {xs : List (List C)} : O.kill id (rowO fz e c xs) = rowO fz e c xs := by cases fz <;> rfl
/-- A row of the family grows. -/
theorem fam_push {b n k e c : Nat} {fz : Bool} {L : Nat → List (List C)} {X : List (List C)} {m : Mem} (hk : k < n) :
    upd (killM (k + b) (famM b n (fun i => rowO fz e c (L i)) m)) (k + b) (some (rowO fz e c X)) = famM b n (fun i => rowO fz e c (if i = k then X else L i)) (killM (k + b) m) := by
  funext j
  unfold upd
  split
  · rename_i e'
    subst e'
    rw [fam_at hk, if_pos rfl]
  · rename_i e'
    rw [killM_app]
    unfold famM
    split
    · rename_i h
      rw [Option.map_some, kill_rowO]
      show _ = some (rowO fz e c (if j - b = k then X else L (j - b)))
      rw [if_neg (by omega)]
    · rfl
theorem mle_fam {b n : Nat} {f : Nat → O} {m : Mem} (h : ∀ i, i < n → m (i + b) = some (f i)) : MLe m (famM b n f Mem.nil) := fun j => by
  unfold famM
  split
  · rename_i hj
    have := h (j - b) (by omega)
    rw [Nat.sub_add_cancel hj.1] at this
    exact .inr this.symm
  · exact .inl rfl
theorem mwf_fam {m m' : Mem} {b n : Nat} {f : Nat → O} (h : MWf m m') (hf : ∀ i, i < n → (f i).ids = []) : MWf m (famM b n f m') := fun id o ho j hj => by
  unfold famM at ho
  split at ho
  · rename_i hi
    cases ho
    rw [hf _ (by omega)] at hj; simp at hj
  · exact h id o ho j hj
theorem rowO_ids {fz : Bool} {e c : Nat} {xs : List (List C)} : (rowO fz e c xs).ids = [] := by cases fz <;> rfl
section
variable {w0 w : World} {I0 I : Nat → Nat → Prop} {B : Nat → Value} {m : Mem}
/-- New rows, all nil. -/
theorem MR.newNils (hm : MR w0 I0 B I m w) {b n : Nat} (hid : ∀ i, i < n → m (i + b) = none) (fz : Bool) (ty e : Nat) :
    MR w0 I0 (fun j => if b ≤ j ∧ j < b + n then .slice none 0 0 else B j) I (famM b n (fun _ => rowO fz ty e []) m) w := by
  have hne : ∀ j, (m j).isSome = true → ¬ (b ≤ j ∧ j < b + n) := fun j hj e' => by
    have := hid (j - b) (by omega)
    rw [Nat.sub_add_cancel e'.1] at this
    rw [this] at hj; cases hj
  have hB : ∀ j, (m j).isSome = true → (if b ≤ j ∧ j < b + n then Value.slice none 0 0 else B j) = B j := fun j hj => if_neg (hne j hj)
  have liv : ∀ j, (m j).isSome = true → (famM b n (fun _ => rowO fz ty e []) m j).isSome = true := fun j hj => by unfold famM; rw [if_neg (hne j hj)]; exact hj
  have other : ∀ {j : Nat} {z : O}, famM b n (fun _ => rowO fz ty e []) m j = some z → ((b ≤ j ∧ j < b + n) ∧ z = rowO fz ty e []) ∨ (¬ (b ≤ j ∧ j < b + n) ∧ m j = some z) := fun {j z} hz => by
    unfold famM at hz
    split at hz
    · rename_i e'; exact .inl ⟨e', (Option.some.inj hz).symm⟩
    · rename_i e'; exact .inr ⟨e', hz⟩
  have nofoot : ∀ {j k : Nat}, (b ≤ j ∧ j < b + n) → ¬ foot (fun j => if b ≤ j ∧ j < b + n then .slice none 0 0 else B j) j (rowO fz ty e []) k := fun {j k} hj hk => by cases fz <;> simp [rowO, foot, hj, Value.ownBlock] at hk
  have live : ∀ {j : Nat} {z : O}, m j = some z → (m j).isSome = true := fun {j z} hj => by simp [hj]
  refine ⟨hm.below, hm.glob, hm.base, hm.old, hm.there, fun j z hz => ?_, fun j z hz k hk => ?_, fun j z j' z' hz hz' hne' k hk hk' => ?_, fun j z hz i hi => ?_⟩
  · rcases other hz with ⟨hj, rfl⟩ | ⟨hj, ho⟩
    · cases fz with
      | true => exact ⟨[], by show w.ownsRow 0 ty e (if b ≤ j ∧ j < b + n then _ else _) _ _; rw [if_pos hj]; exact World.ownsRow_nil w 0 ty e, trivial, fun x hx => by simp at hx, fun q hb => by simp [hj, Value.ownBlock] at hb⟩
      | false => exact ⟨[], by show rowAt w ty e (if b ≤ j ∧ j < b + n then _ else _) _ _; rw [if_pos hj]; exact ⟨by simp, .inl ⟨rfl, rfl⟩⟩, trivial, fun x hx => by simp at hx, fun q hb => by simp [hj, Value.ownBlock] at hb⟩
    · exact RO.mono (Ext.refl _ _) (hB j (live ho)) (fun i hi => hB i (hm.live j z ho i hi)) (fun _ _ => rfl) (fun _ _ _ hp => hp) (hm.objs j z ho)
  · rcases other hz with ⟨hj, rfl⟩ | ⟨hj, ho⟩
    · exact absurd hk (nofoot hj)
    · exact hm.low j z ho k ((foot_eq (hB j (live ho))).1 hk)
  · rcases other hz with ⟨hj, rfl⟩ | ⟨hj, ho⟩
    · exact nofoot hj hk
    · rcases other hz' with ⟨hj', rfl⟩ | ⟨hj', ho'⟩
      · exact nofoot hj' hk'
      · exact hm.apart j z j' z' ho ho' hne' k ((foot_eq (hB j (live ho))).1 hk) ((foot_eq (hB j' (live ho'))).1 hk')
  · rcases other hz with ⟨hj, rfl⟩ | ⟨hj, ho⟩
    · rw [rowO_ids] at hi; simp at hi
    · exact liv i (hm.live j z ho i hi)
/-- A row of the call's own, told as data where its cells may be relied on. -/
theorem mrow_rc {I' : Nat → Nat → Prop} {id : Nat} {ty : TypeId} {e : Nat} {xs : List (List C)} (hI : ∀ b o, I b o → I' b o) (hN : ∀ b, (B id).ownBlock = some b → ∀ o, I' b o) (h : RO B w I id (.mrow ty e xs)) : RC w I' (B id) (.sl xs) := by
  obtain ⟨vs, hrow, hvs, hlx, hnI⟩ := h
  have hvs' : RCs w I' vs (flat xs) := hvs.mono ⟨hI, fun _ _ _ => rfl⟩
  obtain ⟨hl, ho⟩ := hrow
  rcases ho with ⟨ev, hn⟩ | ⟨g, off, cap, cur, ev, hcell, q1, q2, q3, q4⟩
  · obtain rfl : xs = [] := List.length_eq_zero_iff.1 hn
    rw [ev]
    exact RC.sl (e := 0) (fun _ _ => undef) rfl (Nat.le_refl _) (Nat.zero_le _) (fun x hx => by cases hx) (fun i x hx => by simp at hx) (fun i j x c hx _ => by simp at hx)
  · have hat : ∀ i j x, xs[i]? = some x → j < e → i * e + j < xs.length * e := fun i j x hx hj => by
      have hi := (List.getElem?_eq_some_iff.1 hx).1
      have : (i + 1) * e ≤ xs.length * e := Nat.mul_le_mul_right _ hi
      rw [Nat.add_mul] at this
      omega
    rw [ev]
    refine RC.sl (e := e) (fun i j => vs.getD (i * e + j) undef) rfl q1 q2 hlx (fun i x hx => ⟨g, off, rfl, fun j hj => ⟨hN g (by rw [ev]; rfl) _, ?_⟩⟩) (fun i j x c hx hc => ?_)
    · have hlt := hat i j x hx hj
      have hcur : cur[off + (i * e + j)]? = vs[i * e + j]? := by
        rw [← q4, List.getElem?_take, if_pos hlt, List.getElem?_drop, Array.getElem?_toList]
      rw [Nat.add_assoc]
      have hv : vs[i * e + j]? = some (vs.getD (i * e + j) undef) := by
        rw [List.getD_eq_getElem?_getD, List.getElem?_eq_getElem (by omega)]; rfl
      rw [← hv, ← hcur]
      simp [World.cell?, hcell]
    · have hj : j < e := by rw [← hlx x (List.mem_of_getElem? hx)]; exact (List.getElem?_eq_some_iff.1 hc).1
      have hfl := flat_at hlx i j x hx hj
      rw [hc] at hfl
      obtain ⟨u, hu, hr⟩ := hvs'.at _ _ hfl
      rw [List.getD_eq_getElem?_getD, hu]
      exact hr
theorem arr_rc {I' : Nat → Nat → Prop} {id : Nat} {ty : TypeId} {e : Nat} {xs : List (List C)} (hI : ∀ b o, I b o → I' b o) (hm : MR w0 I0 B I m w) (h : m id = some (.arr ty e xs)) : RC w I' (B id) (.sl xs) :=
  (own_rc hm h).mono ⟨hI, fun _ _ _ => rfl⟩
/-- A table whose rows are all of the call's own, told as data. -/
theorem MR.tabData (h : MR w0 I0 B I m w) {T b n ty e c : Nat} {L : Nat → List (List C)} (hT : m T = some (.rows ty (tabR b n))) (hL : ∀ i, i < n → m (i + b) = some (.mrow e c (L i))) :
    ∃ I', MR w0 I0 B I' Mem.nil w ∧ Ext w w I I' ∧ RC w I' (B T) (.sl ((List.range n).map fun i => [.sl (L i)])) := by
  have h0 : MR w0 I0 B I Mem.nil w := ⟨h.below, h.glob, h.base, h.old, h.there, fun _ _ h => absurd h (noneSome _), fun _ _ h => absurd h (noneSome _), fun _ _ _ _ h => absurd h (noneSome _), fun _ _ h => absurd h (noneSome _)⟩
  let N : Nat → Nat → Prop := fun q _ => (B T).ownBlock = some q ∨ ∃ i, i < n ∧ (B (i + b)).ownBlock = some q
  have hlow : ∀ q o, N q o → w0.heap.size ≤ q ∧ q < w.heap.size := fun q o hq => by
    rcases hq with hq | ⟨i, hi, hq⟩
    · exact h.low T _ hT q hq
    · exact h.low _ _ (hL i hi) q hq
  refine ⟨fun q o => I q o ∨ N q o, ⟨h.below, h.glob, fun q o k => .inl (h.base q o k), fun q o k => k.elim (h.old q o) fun k => .inr (hlow q o k).1, fun q o k => k.elim (h.there q o) fun k => (hlow q o k).2,
    fun _ _ h => absurd h (noneSome _), fun _ _ h => absurd h (noneSome _), fun _ _ _ _ h => absurd h (noneSome _), fun _ _ h => absurd h (noneSome _)⟩, ⟨fun _ _ k => .inl k, fun _ _ _ => rfl⟩, ?_⟩
  have rowsD : ∀ i, i < n → RC w (fun q o => I q o ∨ N q o) (B (i + b)) (.sl (L i)) := fun i hi => mrow_rc (fun _ _ k => .inl k) (fun q hq o => .inr (.inr ⟨i, hi, hq⟩)) (h.objs _ _ (hL i hi))
  obtain ⟨vs, hrow, hvs, h1, hno⟩ := h.objs T _ hT
  rw [tabR_len] at hrow
  obtain ⟨hl, ho⟩ := hrow
  have hvat : ∀ i, i < n → vs[i]? = some (B (i + b)) := fun i hi => by
    obtain ⟨v, hv1, hv2⟩ := hvs.at i _ (tabR_at hi)
    have hv2 : v = B (i + b) := hv2.1
    rw [hv1, hv2]
  rcases ho with ⟨ev, hn⟩ | ⟨g, off, cap, cur, ev, hcell, q1, q2, q3, q4⟩
  · subst hn
    rw [ev]
    exact RC.sl (e := 0) (fun _ _ => undef) rfl (Nat.le_refl _) (Nat.zero_le _) (fun x hx => by cases hx) (fun i x hx => by simp at hx) (fun i j x c hx _ => by simp at hx)
  · rw [ev]
    refine RC.sl (e := 1) (fun i _ => B (i + b)) (by simp) q1 q2 (fun x hx => by obtain ⟨i, -, rfl⟩ := List.mem_map.1 hx; rfl) (fun i x hx => ⟨g, off, rfl, fun j hj => ⟨.inr (.inl (by rw [ev]; rfl)), ?_⟩⟩) (fun i j x c hx hc => ?_)
    · have hi : i < n := by have := (List.getElem?_eq_some_iff.1 hx).1; simpa using this
      obtain rfl : j = 0 := by omega
      have hcur : cur[off + i]? = vs[i]? := by
        rw [← q4, List.getElem?_take, if_pos (by omega), List.getElem?_drop, Array.getElem?_toList]
      rw [← hvat i hi, ← hcur]
      simp [World.cell?, hcell]
    · have hi : i < n := by have := (List.getElem?_eq_some_iff.1 hx).1; simpa using this
      simp only [List.getElem?_map, List.getElem?_range hi, Option.map_some, Option.some.injEq] at hx
      subst hx
      cases j with
      | zero => simp at hc; subst hc; exact rowsD i hi
      | succ j => simp at hc
end
section
variable {P : Go.Program}
/-- A table that is all nil: each row gets a name. -/
theorem W.famStart {R : Ref} {n : Nat} {ds : List Deferred} {st : St} {c : Code} {K : Exit → St → Prop} (fz : Bool) (T b k ty e ce : Nat) (hT : st.m T = some (.rows ty (List.replicate k .nil))) (hb : T < b) (hid : ∀ i, i < k → st.m (i + b) = none)
    (h : W P R n ds ⟨st.s, upd (famM b k (fun _ => rowO fz e ce []) st.m) T (some (.rows ty (tabR b k)))⟩ c K) : W P R n ds st c K := by
  intro a w hr
  refine h a w ?_
  obtain ⟨⟨B, I, hm, hx0, hkp, hs⟩, h2, h3, hnn, h4, h5⟩ := hr
  have hne : ∀ i, (st.m i).isSome = true → ¬ (b ≤ i ∧ i < b + k) := fun i hi e' => by
    have := hid (i - b) (by omega)
    rw [Nat.sub_add_cancel e'.1] at this
    rw [this] at hi; cases hi
  have hB : ∀ i, (st.m i).isSome = true → (if b ≤ i ∧ i < b + k then Value.slice none 0 0 else B i) = B i := fun i hi => if_neg (hne i hi)
  have hm1 := hm.newNils hid fz e ce
  have hT1 : famM b k (fun _ => rowO fz e ce []) st.m T = some (.rows ty (List.replicate k .nil)) := by rw [fam_lo hb]; exact hT
  obtain ⟨vs, e1, e2, e3, e4⟩ := hm1.objs T _ hT1
  have liv : ∀ i, (st.m i).isSome = true → (upd (famM b k (fun _ => rowO fz e ce []) st.m) T (some (.rows ty (tabR b k))) i).isSome = true := fun i hi => by
    unfold upd; split
    · rfl
    · unfold famM; rw [if_neg (hne i hi)]; exact hi
  have hBT : (if b ≤ T ∧ T < b + k then Value.slice none 0 0 else B T) = B T := if_neg (by omega)
  have hm2 : MR R.w0 R.I0 (fun j => if b ≤ j ∧ j < b + k then .slice none 0 0 else B j) I (upd (famM b k (fun _ => rowO fz e ce []) st.m) T (some (.rows ty (tabR b k)))) w := by
    have hR1 : R1s (fun j => if b ≤ j ∧ j < b + k then .slice none 0 0 else B j) w I (tabR b k) vs := by
      have hl := e2.length
      simp at hl
      refine R1s.of (by rw [tabR_len]; exact hl) fun q x v hx hv => ?_
      have hq : q < k := by have := (List.getElem?_eq_some_iff.1 hx).1; rwa [tabR_len] at this
      rw [tabR_at hq] at hx
      cases hx
      obtain ⟨v2, q1, q2⟩ := e2.at q .nil (by simp [hq])
      rw [hv] at q1; cases q1
      have hv' : v = .slice none 0 0 := q2
      refine ⟨?_, none, 0, 0, hv'⟩
      show v = if b ≤ q + b ∧ q + b < b + k then _ else _
      rw [if_pos (by omega)]; exact hv'
    have key : ∀ (j : Nat) (z : O), upd (famM b k (fun _ => rowO fz e ce []) st.m) T (some (.rows ty (tabR b k))) j = some z → (j = T ∧ z = .rows ty (tabR b k)) ∨ (j ≠ T ∧ famM b k (fun _ => rowO fz e ce []) st.m j = some z) := fun j z hz => by
      unfold upd at hz
      split at hz
      · rename_i e'; exact .inl ⟨e', (Option.some.inj hz).symm⟩
      · rename_i e'; exact .inr ⟨e', hz⟩
    refine ⟨hm1.below, hm1.glob, hm1.base, hm1.old, hm1.there, fun j z hz => ?_, fun j z hz q hq => ?_, fun j z j' z' hz hz' hne' q hq hq' => ?_, fun j z hz i hi => ?_⟩
    · rcases key j z hz with ⟨rfl, rfl⟩ | ⟨hj, ho⟩
      · rw [List.length_replicate] at e1
        exact ⟨vs, by rw [tabR_len]; exact e1, hR1, e3, e4⟩
      · exact hm1.objs j z ho
    · rcases key j z hz with ⟨rfl, rfl⟩ | ⟨hj, ho⟩
      · exact hm1.low j _ hT1 q hq
      · exact hm1.low j z ho q hq
    · rcases key j z hz with ⟨rfl, rfl⟩ | ⟨hj, ho⟩
      · rcases key j' z' hz' with ⟨rfl, -⟩ | ⟨hj', ho'⟩
        · exact hne' rfl
        · exact hm1.apart _ _ j' z' hT1 ho' hne' q hq hq'
      · rcases key j' z' hz' with ⟨rfl, rfl⟩ | ⟨hj', ho'⟩
        · exact hm1.apart j z _ _ ho hT1 hne' q hq hq'
        · exact hm1.apart j z j' z' ho ho' hne' q hq hq'
    · rcases key j z hz with ⟨rfl, rfl⟩ | ⟨hj, ho⟩
      · obtain ⟨q, hq, rfl⟩ := tabR_ids.1 hi
        rw [upd_ne _ _ (by omega), fam_at hq]; rfl
      · have := hm1.live j z ho i hi
        unfold upd; split
        · rfl
        · exact this
  exact ⟨⟨_, I, hm2, hx0, fun i hi => (hB i (h5 i hi)).trans (hkp i hi), fun t => (hs t).mono (Ext.refl _ _) fun i hi => hB i (h2 t i hi)⟩, fun t i hi => liv i (h2 t i hi), h3, hnn, h4, fun i hi => liv i (h5 i hi)⟩
/-- The table is data from here on; nothing else of the call's own is told any more. -/
theorem W.tabData {R : Ref} {n : Nat} {ds : List Deferred} {st : St} {c : Code} {K : Exit → St → Prop} (t T b k : Nat) {ty e ce : Nat} {L : Nat → List (List C)} (s' : Nat → A) (hkeep : R.keep = fun _ => False) (ht : st.s t = .own T) (hT : st.m T = some (.rows ty (tabR b k))) (hL : ∀ i, i < k → st.m (i + b) = some (.mrow e ce (L i)))
    (hs' : ∀ u, s' u = .top ∨ (s' u = st.s u ∧ (st.s u).ids = [])) (hdd : dfs (st.s DID) = []) (htd : t ≠ DID) (h : W P R n ds ⟨upd s' t (.c (.sl ((List.range k).map fun i => [.sl (L i)]))), Mem.nil⟩ c K) : W P R n ds st c K := by
  intro a w hr
  refine h a w ?_
  obtain ⟨⟨B, I, hm, hx0, hkp0, hs⟩, h2, h3, hnn, h4, h5⟩ := hr
  obtain ⟨I', hm', hE, hrc⟩ := hm.tabData hT hL
  have hown : RV B w I (.own T) (a.tmps.getD t undef) := ht ▸ hs t
  have noid : ∀ u, (upd s' t (A.c (.sl ((List.range k).map fun i => [.sl (L i)]))) u).ids = [] := fun u => by
    by_cases hu : u = t
    · subst hu; rw [upd_same]; rfl
    · rw [upd_ne _ _ hu]
      rcases hs' u with q | ⟨q, q2⟩
      · rw [q]; rfl
      · rw [q]; exact q2
  refine ⟨⟨B, I', hm', hx0.trans hE, fun j hj => hkp0 j hj, fun u => ?_⟩, fun u j hj => by rw [show ((⟨upd s' t (.c (.sl ((List.range k).map fun i => [.sl (L i)]))), Mem.nil⟩ : St).s u).ids = [] from noid u] at hj; simp at hj, h3, hnn, ?_, fun j hj => by rw [hkeep] at hj; exact hj.elim⟩
  · show RV B w I' (upd s' t _ u) _
    by_cases hu : u = t
    · subst hu
      rw [upd_same]
      show RC _ _ _ _
      rw [hown.1]; exact hrc
    · rw [upd_ne _ _ hu]
      rcases hs' u with q | ⟨q, q2⟩
      · rw [q]; trivial
      · rw [q]
        exact (hs u).mono hE fun j hj => rfl
  · show _ = dfs (upd s' t _ DID) ++ ds
    rw [upd_ne _ _ (fun q => htd q.symm)]
    rw [hdd] at h4
    rcases hs' DID with q | ⟨q, -⟩
    · rw [q]; exact h4
    · rw [q, hdd]; exact h4
end
end V
end Go.Proofs.Ytgaipdillmleeaa
end
section
/- The walk over plain data inside a round of a loop over an iterator. -/
namespace Go.Proofs.Ytgaipdillmleeaa
namespace V
open Go.RowKit

section
variable {P : Go.Program} {T : Tab} {base : Nat} {ops : Array Oper} (hT : T.Ok P) {R : Ref} {w : World} {n : Nat} {ds : List Deferred} {l n' : Nat}
include hT
theorem plain_round (hd : ∀ o ∈ ops, ∀ d, o.dst = some d → d < n) (hnd : noDefer ops = true) {Q : Exit → Act → World → Prop} {st' : St} (hQ : ∀ a w, SR R n ds st' a w → Q .normal a w) :
    ∀ (L : List Nat) (st : St) (a : Act) (w : World), Chain P T R.keep base ops L st st' → SR R n ds st a w → wpOpsIn (Fence.wide.inRound l) n' P ops Q L a w
  | [], st, a, w, h, hr => by cases h; exact hQ a w hr
  | i :: L, st, a, w, h, hr => by
    cases h with
    | @cons _ o _ _ st1 _ hi h1 t =>
      unfold wpOpsIn
      simp only [hi]
      have hgo := h1.snd hT hr (hd o (Array.mem_of_getElem? hi)) (K := wpOpsIn (Fence.wide.inRound l) n' P ops Q L) (Q := Q) (fun a' w' hr' => plain_round hd hnd hQ L st1 a' w' t hr')
      split
      · rename_i hw; rw [if_pos hw] at hgo; exact oper_round (noDefer_spec hnd hi) hgo
      · rename_i hw; rw [if_neg hw] at hgo; exact ⟨fun _ _ => trivial, hgo⟩
end

/-- The walk from a state, inside a round. -/
def WI (l n' : Nat) (P : Go.Program) (R : Ref) (n : Nat) (ds : List Deferred) (st : St) (c : Code) (K : Exit → St → Prop) : Prop :=
  ∀ a w, SR R n ds st a w → c.wpIn (Fence.wide.inRound l) n' P (fun e a' w' => ∃ st', K e st' ∧ SR R n ds st' a' w') a w
section
variable {l n' : Nat} {P : Go.Program} {T : Tab} {R : Ref} {n : Nat} {ds : List Deferred} {st : St} {K : Exit → St → Prop}
theorem WI.mono {c : Code} {K' : Exit → St → Prop} (h : WI l n' P R n ds st c K) (hk : ∀ e st', K e st' → K' e st') : WI l n' P R n ds st c K' :=
  fun a w hr => wpIn_mono (h a w hr) fun e _ _ ⟨st', h1, h2⟩ => ⟨st', hk e st' h1, h2⟩
theorem WI.region (hT : T.Ok P) (base : Nat) {id : Nat} {ops : Array Oper} {st' : St} (hd : dstOk n ops = true) (hnd : noDefer ops = true) (h : RunL P T R.keep base ops ops.toList st st') (hk : K .normal st') : WI l n' P R n ds st (.region id ops false) K := fun a w hr =>
  wpIn_region (plain_round hT (dstOk_spec hd) hnd (fun a w hr' => ⟨st', hk, hr'⟩) _ st a w (by rw [range_range']; have := h.chain (k := 0) (by simp); simpa using this) hr)
theorem WI.regionD (hT : T.Ok P) (base : Nat) {id : Nat} {ops : Array Oper} {st' : St} (hm : P.follows .mixedOrders = true) (hok : okRegion T ops = true) (hd : dstOk n ops = true) (hnd : noDefer ops = true) (h : RunL P T R.keep base ops ops.toList st st') (hk : K .normal st') : WI l n' P R n ds st (.region id ops true) K := fun a w hr => by
  refine wpIn_mono (Q := fun e a w => e = .normal ∧ SR R n ds st' a w) (region_round (fun ⟨_, _, h, _⟩ => by cases h) hm hnd (any_snd hT hok (dstOk_spec hd) (fun a w hr' => ⟨rfl, hr'⟩) _ _ (List.range ops.size) st a _ (by simp) (by simp) (List.pairwise_lt_range) (fun i => ?_) (fun k o ho hl => ?_) ?_ (by rw [range_range']; have := h.chain (k := 0) (by simp); simpa using this))) fun e a w h => ⟨st', h.1 ▸ hk, h.2⟩
  · rw [List.mem_range]
    refine ⟨fun hi => ⟨hi, ?_⟩, fun hi => hi.1⟩
    simp [hi]
  · exfalso
    have hk := (Array.getElem?_eq_some_iff.1 ho).1
    simp [hk] at hl
  · obtain ⟨⟨B, I, hmr, hx0, hkp, hs⟩, h2, h3, hnn, h4, h5⟩ := hr
    have hE : Ext w w.drew I I := ⟨fun _ _ k => k, fun _ _ _ => rfl⟩
    exact ⟨⟨B, I, hmr.call (Below.refl _ _).drew, hx0.trans hE, hkp, fun t => (hs t).mono hE fun _ _ => rfl⟩, h2, h3, hnn, h4, h5⟩
theorem WI.seq {x y : Code} (h : WI l n' P R n ds st x (thenK (fun st' => WI l n' P R n ds st' y K) K)) : WI l n' P R n ds st (.seq x y) K := fun a w hr =>
  wpIn_seq (wpIn_mono (h a w hr) fun e a' w' ⟨st', h1, h2⟩ => by
    cases e with
    | normal => exact h1 a' w' h2
    | _ => exact ⟨st', h1, h2⟩)
theorem WI.cond {c : Operand} {x y : Code} {b : Bool} (hc : ev st.s c = .c (.bool b)) (ht : b = true → WI l n' P R n ds st x K) (hf : b = false → WI l n' P R n ds st y K) : WI l n' P R n ds st (.cond c x y) K := fun a w hr => by
  obtain ⟨B, I, hm, -, -, hs⟩ := hr.ex
  have := ev_rv hs c
  rw [hc] at this
  exact wpIn_cond_split (RC.toBool this) (fun e => ht e a w hr) (fun e => hf e a w hr)
theorem WI.block {id : Nat} {c : Code} (h : WI l n' P R n ds st c (blockK id K)) : WI l n' P R n ds st (.block id c) K := fun a w hr =>
  wpIn_block (wpIn_mono (h a w hr) fun e a' w' ⟨st', h1, h2⟩ => by
    cases e with
    | exit j =>
      simp only [blockK, Exit.inBlock] at h1 ⊢
      split
      · rename_i e; rw [if_pos e] at h1; exact ⟨st', h1, h2⟩
      · rename_i e; rw [if_neg e] at h1; exact ⟨st', h1, h2⟩
    | _ => exact ⟨st', h1, h2⟩)
theorem WI.exit {id : Nat} (h : K (.exit id) st) : WI l n' P R n ds st (.exit id) K := fun _ _ hr => wpIn_exit ⟨st, h, hr⟩
theorem WI.ret (h : K .ret st) : WI l n' P R n ds st .ret K := fun _ _ hr => wpIn_ret ⟨st, h, hr⟩
theorem WI.skip (h : K .normal st) : WI l n' P R n ds st .skip K := fun _ _ hr => wpIn_skip ⟨st, h, hr⟩
theorem WI.weakenT {τ : Nat → Nat} {st' : St} {c : Code} (hl : LeT τ R.keep st st') (h : WI l n' P R n ds st' c K) : WI l n' P R n ds st c K := fun a w hr => h a w (hr.leT hl)
theorem WI.weaken {st' : St} {c : Code} (hl : Le R.keep st st') (h : WI l n' P R n ds st' c K) : WI l n' P R n ds st c K := fun a w hr => h a w (hr.le hl)
/-- A loop: what holds of the state at its head, by an index that goes down. -/
theorem WI.loop {ι : Type} {c : Code} (mk : ι → St) (Inv : ι → Prop) (μ : ι → Nat) (i0 : ι) (hl : Le R.keep st (mk i0)) (h0 : Inv i0)
    (hround : ∀ i, Inv i → WI l n' P R n ds (mk i) c (thenK (fun st' => ∃ i', Inv i' ∧ μ i' < μ i ∧ Le R.keep st' (mk i')) K)) : WI l n' P R n ds st (.loop c) K := by
  refine WI.weaken hl ?_
  intro a w hr
  refine wpIn_loop_ghost (fun k a w => ∃ i, Inv i ∧ μ i = k ∧ SR R n ds (mk i) a w) (μ i0) ⟨i0, h0, rfl, hr⟩ ?_
  rintro k a w ⟨i, hi, rfl, hr⟩
  refine wpIn_mono (hround i hi a w hr) ?_
  rintro e a' w' ⟨st', h1, h2⟩
  cases e with
  | normal =>
    obtain ⟨i', hi', hlt, hle⟩ := h1
    exact ⟨μ i', hlt, i', hi', rfl, h2.le hle⟩
  | _ => exact ⟨st', h1, h2⟩
theorem WI.regionK (hT : T.Ok P) (base : Nat) {id : Nat} {ops : Array Oper} (hd : dstOk n ops = true) (hnd : noDefer ops = true) (h : RunK P T R.keep base ops ops.toList st (K .normal)) : WI l n' P R n ds st (.region id ops false) K :=
  let ⟨_, h1, h2⟩ := h
  WI.region hT base hd hnd h1 h2
theorem WI.regionDK (hT : T.Ok P) (base : Nat) {id : Nat} {ops : Array Oper} (hm : P.follows .mixedOrders = true) (hok : okRegion T ops = true) (hd : dstOk n ops = true) (hnd : noDefer ops = true) (h : RunK P T R.keep base ops ops.toList st (K .normal)) : WI l n' P R n ds st (.region id ops true) K :=
  let ⟨_, h1, h2⟩ := h
  WI.regionD hT base hm hok hd hnd h1 h2
end
end V
end Go.Proofs.Ytgaipdillmleeaa
end
section
/- A small drawn region, order by order: nothing is asked of what may run in either order. -/
set_option linter.unusedVariables false
set_option linter.unusedSimpArgs false
namespace Go.Proofs.Ytgaipdillmleeaa
namespace V
open Go.RowKit
def Runs (P : Go.Program) (T : Tab) (kp : Nat → Prop) (base : Nat) (ops : Array Oper) (K : St → Prop) : Nat → Array Bool → St → Prop
  | 0, listed, st => Region.ready .any ops listed = [] ∧ K st
  | f + 1, listed, st => (Region.ready .any ops listed = [] → K st) ∧ ∀ i ∈ Region.ready .any ops listed, ∀ o, ops[i]? = some o → ∃ st1, HS P T kp base ops o st st1 ∧ Runs P T kp base ops K f (listed.setIfInBounds i true) st1
section
variable {P : Go.Program} {T : Tab} (hT : T.Ok P) {R : Ref} {w : World} {n base : Nat} {ds : List Deferred} {ops : Array Oper}
include hT in
theorem runs_snd (hd : ∀ o ∈ ops, ∀ d, o.dst = some d → d < n) {K : St → Prop} {Q : Exit → Act → World → Prop} (hQ : ∀ st a w, K st → SR R n ds st a w → Q .normal a w) :
    ∀ (fuel : Nat) (listed : Array Bool) (st : St) (a : Act) (w : World), Runs P T R.keep base ops K fuel listed st → SR R n ds st a w → wpAny P .any ops Q fuel listed a w := by
  intro fuel
  induction fuel with
  | zero =>
    intro listed st a w h hr
    exact ⟨h.1, hQ _ _ _ h.2 hr⟩
  | succ fuel ih =>
    intro listed st a w h hr
    obtain ⟨h0, h1⟩ := h
    constructor
    · intro hnil
      exact hQ _ _ _ (h0 hnil) hr
    · intro i hi
      obtain ⟨-, oi, h2, -⟩ := mem_ready.1 hi
      obtain ⟨st1, h4, h5⟩ := h1 i hi oi h2
      unfold wpOp
      rw [h2]
      have hgo := h4.snd hT hr (hd oi (Array.mem_of_getElem? h2)) (K := wpAny P .any ops Q fuel (listed.setIfInBounds i true)) (Q := Q) (fun a' w' hr' => ih _ _ _ _ h5 hr')
      dsimp only
      split
      · rename_i hw; rw [if_pos hw] at hgo; exact .inl hgo
      · rename_i hw; rw [if_neg hw] at hgo; exact hgo
end
section
variable {P : Go.Program} {T : Tab} {kp : Nat → Prop} {base f : Nat} {ops : Array Oper} {K : St → Prop} {listed : Array Bool} {st st1 st2 : St}
theorem runs_end (hr : Region.ready .any ops listed = []) (hk : K st) : Runs P T kp base ops K f listed st := by
  cases f with
  | zero => exact ⟨hr, hk⟩
  | succ f => exact ⟨fun _ => hk, fun i hi => by rw [hr] at hi; cases hi⟩
theorem run_one {o : Oper} (h : exec T base ops [o] st = some st1) : HS P T kp base ops o st st1 := by
  have := exec_run (P := P) (kp := kp) h
  cases this with
  | cons h t => cases t; exact h
theorem runs_one {i : Nat} {o : Oper} (hr : Region.ready .any ops listed = [i]) (ho : ops[i]? = some o) (h : ∃ st1, exec T base ops [o] st = some st1 ∧ Runs P T kp base ops K f (listed.setIfInBounds i true) st1) : Runs P T kp base ops K (f + 1) listed st :=
  ⟨(fun e => absurd (hr.symm.trans e) (by simp)), fun k hk' o' ho' => by
    rw [hr] at hk'
    obtain rfl : k = i := by simpa using hk'
    rw [ho] at ho'
    cases ho'
    exact let ⟨st1, h1, h2⟩ := h; ⟨st1, run_one h1, h2⟩⟩
theorem runs_two {i j : Nat} {o p : Oper} (hr : Region.ready .any ops listed = [i, j]) (ho : ops[i]? = some o) (hp : ops[j]? = some p) (h : ∃ st1, exec T base ops [o] st = some st1 ∧ Runs P T kp base ops K f (listed.setIfInBounds i true) st1)
    (h' : ∃ st1, exec T base ops [p] st = some st1 ∧ Runs P T kp base ops K f (listed.setIfInBounds j true) st1) : Runs P T kp base ops K (f + 1) listed st :=
  ⟨(fun e => absurd (hr.symm.trans e) (by simp)), fun k hm o' ho' => by
    rw [hr] at hm
    rcases List.mem_cons.1 hm with rfl | hm
    · rw [ho] at ho'
      cases ho'
      exact let ⟨st1, h1, h2⟩ := h; ⟨st1, run_one h1, h2⟩
    · obtain rfl : k = j := by simpa using hm
      rw [hp] at ho'
      cases ho'
      exact let ⟨st1, h1, h2⟩ := h'; ⟨st1, run_one h1, h2⟩⟩
end
section
variable {l n' : Nat} {P : Go.Program} {T : Tab} {R : Ref} {n : Nat} {ds : List Deferred} {st : St} {K : Exit → St → Prop}
theorem WI.regionT (hT : T.Ok P) (base : Nat) {id : Nat} {ops : Array Oper} (hm : P.follows .mixedOrders = true) (hd : dstOk n ops = true) (hnd : noDefer ops = true) (h : Runs P T R.keep base ops (K .normal) ops.size (Array.replicate ops.size false) st) : WI l n' P R n ds st (.region id ops true) K := fun a w hr => by
  refine wpIn_mono (Q := fun e a w => e = .normal ∧ ∃ st', K .normal st' ∧ SR R n ds st' a w) (region_round (fun ⟨_, _, h, _⟩ => by cases h) hm hnd (runs_snd hT (dstOk_spec hd) (fun st' a w hk hr' => ⟨rfl, st', hk, hr'⟩) _ _ st a _ h ?_)) fun e a w h => h.1 ▸ h.2
  obtain ⟨⟨B, I, hmr, hx0, hkp, hs⟩, h2, h3, hnn, h4, h5⟩ := hr
  have hE : Ext w w.drew I I := ⟨fun _ _ k => k, fun _ _ _ => rfl⟩
  exact ⟨⟨B, I, hmr.call (Below.refl _ _).drew, hx0.trans hE, hkp, fun t => (hs t).mono hE fun _ _ => rfl⟩, h2, h3, hnn, h4, h5⟩
theorem W.regionT (hT : T.Ok P) (base : Nat) {id : Nat} {ops : Array Oper} (hm : P.follows .mixedOrders = true) (hd : dstOk n ops = true) (h : Runs P T R.keep base ops (K .normal) ops.size (Array.replicate ops.size false) st) : W P R n ds st (.region id ops true) K := fun a w hr => by
  refine wp_region_any hm (runs_snd hT (dstOk_spec hd) (fun st' a w hk hr' => ⟨st', hk, hr'⟩) _ _ st a _ h ?_)
  obtain ⟨⟨B, I, hmr, hx0, hkp, hs⟩, h2, h3, hnn, h4, h5⟩ := hr
  have hE : Ext w w.drew I I := ⟨fun _ _ k => k, fun _ _ _ => rfl⟩
  exact ⟨⟨B, I, hmr.call (Below.refl _ _).drew, hx0.trans hE, hkp, fun t => (hs t).mono hE fun _ _ => rfl⟩, h2, h3, hnn, h4, h5⟩
end
end V
end Go.Proofs.Ytgaipdillmleeaa
end
section
/- A drawn region, order by order; what commutes with all that may come ahead of it is taken first. -/
set_option linter.unusedVariables false
set_option linter.unusedSimpArgs false
namespace Go.Proofs.Ytgaipdillmleeaa
namespace V
open Go.RowKit
/-- Operation i may be taken first. -/
def firstB (T : Tab) (ops : Array Oper) (listed : Array Bool) (i : Nat) : Bool :=
  (Region.ready .any ops listed).contains i && (List.range ops.size).all fun j => j == i || listed.getD j true || (match ops[i]?, ops[j]? with | some oi, some oj => indep T ops oi oj | _, _ => false) || ancB ops ops.size j i
section
variable {P : Go.Program} {T : Tab} {kp : Nat → Prop} {base : Nat} {ops : Array Oper} {K : St → Prop}
theorem getD_set {listed : Array Bool} {i k : Nat} {d : Bool} : (listed.setIfInBounds i true).getD k d = if i = k ∧ i < listed.size then true else listed.getD k d := by
  rw [Array.getD_eq_getD_getElem?, Array.getD_eq_getD_getElem?, Array.getElem?_setIfInBounds]
  by_cases e : i = k
  · subst e
    by_cases h : i < listed.size
    · simp [h]
    · simp [h]
  · simp [e]
theorem closed_set {listed : Array Bool} {i : Nat} (hsz : listed.size = ops.size) (hc : ClosedL ops listed) (hi : i ∈ Region.ready .any ops listed) : ClosedL ops (listed.setIfInBounds i true) := by
  obtain ⟨h1, oi, h2, h3⟩ := mem_ready.1 hi
  have hlt := (Array.getElem?_eq_some_iff.1 h2).1
  intro k o hk hl e he hb
  have up : listed.getD e.on false = true → (listed.setIfInBounds i true).getD e.on false = true := fun h => by
    rw [getD_set]; split
    · rfl
    · exact h
  rw [getD_set] at hl
  by_cases q : i = k
  · subst q
    rw [h2] at hk
    cases hk
    exact up (h3 e he hb)
  · rw [if_neg (fun z => q z.1)] at hl
    exact up (hc k o hk hl e he hb)
theorem ready_set {listed : Array Bool} {i k : Nat} (hne : k ≠ i) (hk : k ∈ Region.ready .any ops listed) : k ∈ Region.ready .any ops (listed.setIfInBounds i true) := by
  obtain ⟨h1, o, h2, h3⟩ := mem_ready.1 hk
  refine mem_ready.2 ⟨?_, o, h2, fun e he hb => ?_⟩
  · rw [getD_set, if_neg (fun z => hne z.1.symm)]; exact h1
  · rw [getD_set]; split
    · rfl
    · exact h3 e he hb
theorem set_comm {listed : Array Bool} {i k : Nat} (h : i ≠ k) : (listed.setIfInBounds i true).setIfInBounds k true = (listed.setIfInBounds k true).setIfInBounds i true := by
  apply Array.ext_getElem?
  intro j
  simp only [Array.getElem?_setIfInBounds, Array.size_setIfInBounds]
  by_cases h1 : i = j
  · have h2 : k ≠ j := fun e => h (h1.trans e.symm)
    simp [h1, h2]
  · simp [h1]
theorem por {i : Nat} {oi : Oper} (hoi : ops[i]? = some oi) : ∀ (f : Nat) (listed : Array Bool) (st st1 : St), listed.size = ops.size → ClosedL ops listed → firstB T ops listed i = true → WF st → HS P T kp base ops oi st st1 → Runs P T kp base ops K f (listed.setIfInBounds i true) st1 →
    Runs P T kp base ops K (f + 1) listed st := by
  intro f
  induction f with
  | zero =>
    intro listed st st1 hsz hc hf hw h hr
    simp only [firstB, Bool.and_eq_true] at hf
    have hi : i ∈ Region.ready .any ops listed := by simpa using hf.1
    refine ⟨(fun e => by rw [e] at hi; cases hi), fun k hk o ho => ?_⟩
    by_cases e : k = i
    · subst e
      rw [hoi] at ho; cases ho
      exact ⟨st1, h, hr⟩
    · have := ready_set e hk
      rw [hr.1] at this; cases this
  | succ f ih =>
    intro listed st st1 hsz hc hf hw h hr
    have hf0 := hf
    simp only [firstB, Bool.and_eq_true] at hf
    have hi : i ∈ Region.ready .any ops listed := by simpa using hf.1
    obtain ⟨i1, oi', i2, i3⟩ := mem_ready.1 hi
    refine ⟨(fun e => by rw [e] at hi; cases hi), fun k hk o ho => ?_⟩
    by_cases e : k = i
    · subst e
      rw [hoi] at ho; cases ho
      exact ⟨st1, h, hr⟩
    · obtain ⟨k1, ok, k2, k3⟩ := mem_ready.1 hk
      rw [k2] at ho; cases ho
      obtain ⟨st2, q1, q2⟩ := hr.2 k (ready_set e hk) o k2
      have hlt := (Array.getElem?_eq_some_iff.1 k2).1
      have hind : indep T ops oi o = true := by
        have := List.all_eq_true.1 hf.2 k (List.mem_range.2 hlt)
        simp only [Bool.or_eq_true, beq_iff_eq, hoi, k2] at this
        rcases this with ((z | z) | z) | z
        · exact absurd z e
        · rw [k1] at z; cases z
        · exact z
        · have hl := anc_listed hc _ k o k2 k3 z
          rw [getD_tf hl] at i1; cases i1
      obtain ⟨st3, c1, c2⟩ := HS.comm hind hw h q1
      refine ⟨st3, c1, ih _ st3 st2 (by simpa using hsz) (closed_set hsz hc hk) ?_ (HS.wf hw c1) c2 (by rw [← set_comm (Ne.symm e)]; exact q2)⟩
      simp only [firstB, Bool.and_eq_true]
      refine ⟨by simpa using ready_set (Ne.symm e) hi, List.all_eq_true.2 fun j hj => ?_⟩
      have := List.all_eq_true.1 hf.2 j hj
      simp only [Bool.or_eq_true] at this ⊢
      rcases this with ((z | z) | z) | z
      · exact .inl (.inl (.inl z))
      · refine .inl (.inl (.inr ?_))
        rw [getD_set]; split
        · rfl
        · exact z
      · exact .inl (.inr z)
      · exact .inr z
/-- The same, with what holds of every state on the road. -/
def RunsW (P : Go.Program) (T : Tab) (kp : Nat → Prop) (base : Nat) (ops : Array Oper) (K : St → Prop) (f : Nat) (listed : Array Bool) (st : St) : Prop := listed.size = ops.size → ClosedL ops listed → WF st → Runs P T kp base ops K f listed st
theorem runs_first {f : Nat} {listed : Array Bool} {st : St} (i : Nat) {o : Oper} (ho : ops[i]? = some o) (hf : firstB T ops listed i = true) (h : ∃ st1, HS P T kp base ops o st st1 ∧ RunsW P T kp base ops K f (listed.setIfInBounds i true) st1) : RunsW P T kp base ops K (f + 1) listed st := by
  intro hsz hc hw
  obtain ⟨st1, h1, h2⟩ := h
  have hi : i ∈ Region.ready .any ops listed := by
    simp only [firstB, Bool.and_eq_true] at hf
    simpa using hf.1
  exact por ho f listed st st1 hsz hc hf hw h1 (h2 (by simpa using hsz) (closed_set hsz hc hi) (HS.wf hw h1))
def Steps (P : Go.Program) (T : Tab) (kp : Nat → Prop) (base : Nat) (ops : Array Oper) (K : St → Prop) (f : Nat) (listed : Array Bool) (st : St) : List Nat → Prop
  | [] => True
  | i :: l => (∃ o st1, ops[i]? = some o ∧ HS P T kp base ops o st st1 ∧ RunsW P T kp base ops K f (listed.setIfInBounds i true) st1) ∧ Steps P T kp base ops K f listed st l
theorem steps_mem {f : Nat} {listed : Array Bool} {st : St} : ∀ {l : List Nat}, Steps P T kp base ops K f listed st l → ∀ i ∈ l, ∃ o st1, ops[i]? = some o ∧ HS P T kp base ops o st st1 ∧ RunsW P T kp base ops K f (listed.setIfInBounds i true) st1
  | [], _, i, hi => by cases hi
  | j :: l, h, i, hi => by
    rcases List.mem_cons.1 hi with rfl | hi
    · exact h.1
    · exact steps_mem h.2 i hi
theorem runs_node {f : Nat} {listed : Array Bool} {st : St} (l : List Nat) (hr : Region.ready .any ops listed = l) (hne : l ≠ []) (h : Steps P T kp base ops K f listed st l) : RunsW P T kp base ops K (f + 1) listed st := by
  intro hsz hc hw
  refine ⟨fun e => absurd (hr.symm.trans e) hne, fun i hi o ho => ?_⟩
  obtain ⟨o', st1, h1, h2, h3⟩ := steps_mem h i (hr ▸ hi)
  rw [ho] at h1; cases h1
  exact ⟨st1, h2, h3 (by simpa using hsz) (closed_set hsz hc hi) (HS.wf hw h2)⟩
theorem runsw_end {f : Nat} {listed : Array Bool} {st : St} (hr : Region.ready .any ops listed = []) (hk : K st) : RunsW P T kp base ops K f listed st := fun _ _ _ => runs_end hr hk
def exec1 (T : Tab) (base : Nat) (ops : Array Oper) (i : Nat) (st : St) : Option St := match ops[i]? with
  | some o => exec T base ops [o] st
  | none => none
theorem exec1_hs {i : Nat} {st st1 : St} (h : exec1 T base ops i st = some st1) : ∃ o, ops[i]? = some o ∧ HS P T kp base ops o st st1 := by
  unfold exec1 at h
  split at h
  · rename_i o ho
    exact ⟨o, ho, run_one h⟩
  · cases h
theorem step_exec {f i : Nat} {listed : Array Bool} {st : St} {l : List Nat} (h : ∃ st1, exec1 T base ops i st = some st1 ∧ RunsW P T kp base ops K f (listed.setIfInBounds i true) st1) (t : Steps P T kp base ops K f listed st l) : Steps P T kp base ops K f listed st (i :: l) :=
  ⟨let ⟨st1, h1, h2⟩ := h; let ⟨o, ho, hs⟩ := exec1_hs h1; ⟨o, st1, ho, hs, h2⟩, t⟩
theorem first_exec {f : Nat} {listed : Array Bool} {st : St} (i : Nat) (hf : firstB T ops listed i = true) (h : ∃ st1, exec1 T base ops i st = some st1 ∧ RunsW P T kp base ops K f (listed.setIfInBounds i true) st1) : RunsW P T kp base ops K (f + 1) listed st :=
  let ⟨st1, h1, h2⟩ := h; let ⟨_, ho, hs⟩ := exec1_hs h1; runs_first i ho hf ⟨st1, hs, h2⟩
theorem step_append (hT : T.Ok P) {f i : Nat} {listed : Array Bool} {st : St} {rl : List Nat} {o : Oper} (ho : ops[i]? = some o) {c : Call} {x y : Operand} {t d : Nat} (id : Nat) {e n b : Nat} (fz : Bool) {zs : List Value} {xs ys : List (List C)} (h : wantA ops o st.s = some true) (hop : o.op = .call c) (hc : c.callee = .builtin .append) (ha : c.args = #[x, y]) (ht : c.argTypes = #[t, t]) (hd : o.dst = some d)
    (hx : ev st.s x = .own id) (hm : st.m id = some (rowO fz e n xs)) (hy : asC st.m (ev st.s y) = some (.sl ys)) (h1 : T.elem t = some (e, n)) (h2 : T.bytes e = some b) (h3 : T.zero e = some zs) (h4 : zs.length = n) (hkp : ¬ kp id) (hl : ∀ z ∈ ys, z.length = n) (hb : (xs.length + ys.length) * b ≤ 140737488355328) (hb0 : 0 < b)
    (hr : RunsW P T kp base ops K f (listed.setIfInBounds i true) ⟨upd (killS id st.s) d (.own id), upd (killM id st.m) id (some (rowO fz e n (xs ++ ys)))⟩) (tl : Steps P T kp base ops K f listed st rl) : Steps P T kp base ops K f listed st (i :: rl) :=
  ⟨⟨o, _, ho, .eff (eff_append hT hkp ⟨h, hop, hc, ha, ht, hd, hx, hm, hy, h1, h2, h3, h4, hl, hb, app_small hb hb0⟩), hr⟩, tl⟩
theorem runs_mono {K' : St → Prop} (hk : ∀ st, K st → K' st) : ∀ {f : Nat} {listed : Array Bool} {st : St}, Runs P T kp base ops K f listed st → Runs P T kp base ops K' f listed st
  | 0, _, _, h => ⟨h.1, hk _ h.2⟩
  | _ + 1, _, _, h => ⟨fun e => hk _ (h.1 e), fun i hi o ho => let ⟨st1, h1, h2⟩ := h.2 i hi o ho; ⟨st1, h1, runs_mono hk h2⟩⟩
theorem RunsW.mono {K' : St → Prop} (hk : ∀ st, K st → K' st) {f : Nat} {listed : Array Bool} {st : St} (h : RunsW P T kp base ops K f listed st) : RunsW P T kp base ops K' f listed st := fun a b c => runs_mono hk (h a b c)
theorem closed_none {n : Nat} (hn : ops.size = n) : ClosedL ops (Array.replicate n false) := fun k o hk h => by
  have hlt := (Array.getElem?_eq_some_iff.1 hk).1
  rw [Array.getD_eq_getD_getElem?, Array.getElem?_replicate, if_pos (by omega)] at h
  cases h
end
section
variable {l n' : Nat} {P : Go.Program} {T : Tab} {R : Ref} {n : Nat} {ds : List Deferred} {st : St} {K : Exit → St → Prop}
theorem W.regionP (hT : T.Ok P) (base : Nat) {id : Nat} {ops : Array Oper} (hm : P.follows .mixedOrders = true) (hd : dstOk n ops = true) (h : RunsW P T R.keep base ops (K .normal) ops.size (Array.replicate ops.size false) st) : W P R n ds st (.region id ops true) K := fun a w hr =>
  W.regionT hT base hm hd (h (by simp) (closed_none rfl) hr.wf) a w hr
theorem WI.regionP (hT : T.Ok P) (base : Nat) {id : Nat} {ops : Array Oper} (hm : P.follows .mixedOrders = true) (hd : dstOk n ops = true) (hnd : noDefer ops = true) (h : RunsW P T R.keep base ops (K .normal) ops.size (Array.replicate ops.size false) st) : WI l n' P R n ds st (.region id ops true) K := fun a w hr =>
  WI.regionT hT base hm hd hnd (h (by simp) (closed_none rfl) hr.wf) a w hr
theorem W.regionPC (hT : T.Ok P) (base : Nat) {id : Nat} {ops : Array Oper} (hm : P.follows .mixedOrders = true) (hd : dstOk n ops = true) (can : St) (h : RunsW P T R.keep base ops (fun st' => Le R.keep st' can) ops.size (Array.replicate ops.size false) st) (hK : ∀ st', Le R.keep st' can → K .normal st') : W P R n ds st (.region id ops true) K :=
  W.mono (W.regionP hT base hm hd (K := fun e st' => e = .normal ∧ Le R.keep st' can) (by
    refine RunsW.mono (fun st' h' => ⟨rfl, h'⟩) h)) (fun e st' h' => h'.1 ▸ hK st' h'.2)
end
end V
end Go.Proofs.Ytgaipdillmleeaa
end
section
/- A drawn region, order by order: append onto a nil slice, a map's store; a partial family of rows of the call's own, by keys. -/
set_option linter.unusedVariables false
set_option linter.unusedSimpArgs false
namespace Go.Proofs.Ytgaipdillmleeaa
namespace V
open Go.RowKit
section
variable {P : Go.Program} {T : Tab} {kp : Nat → Prop} {base : Nat} {ops : Array Oper} {K : St → Prop}
theorem step_appendNil (hT : T.Ok P) {f i : Nat} {listed : Array Bool} {st : St} {rl : List Nat} {o : Oper} (ho : ops[i]? = some o) {c : Call} {x y : Operand} {t d : Nat} (id : Nat) {e n b : Nat} (fz : Bool) {zs : List Value} {ys : List (List C)} (h : wantA ops o st.s = some true) (hop : o.op = .call c) (hc : c.callee = .builtin .append) (ha : c.args = #[x, y]) (ht : c.argTypes = #[t, t]) (hd : o.dst = some d)
    (hx : ev st.s x = .nil) (hm : st.m id = none) (hy : asC st.m (ev st.s y) = some (.sl ys)) (h1 : T.elem t = some (e, n)) (h2 : T.bytes e = some b) (h3 : T.zero e = some zs) (h4 : zs.length = n) (hl : ∀ z ∈ ys, z.length = n) (hb : ys.length * b ≤ 140737488355328) (hb0 : 0 < b)
    (hr : RunsW P T kp base ops K f (listed.setIfInBounds i true) ⟨upd st.s d (.own id), upd st.m id (some (rowO fz e n ys))⟩) (tl : Steps P T kp base ops K f listed st rl) : Steps P T kp base ops K f listed st (i :: rl) :=
  ⟨⟨o, _, ho, .eff (eff_appendNil hT fz ⟨h, hop, hc, ha, ht, hd, hx, hm, hy, h1, h2, h3, h4, hl, hb, app_small hb hb0⟩), hr⟩, tl⟩
theorem step_put (hT : T.Ok P) {f i : Nat} {listed : Array Bool} {st : St} {rl : List Nat} {o : Oper} (ho : ops[i]? = some o) {t : Nat} {x kx v : Operand} {j kt e : Nat} {key y : A1} {ents : List (A1 × A1)} {r : Option (Nat × A1)} (h : wantA ops o st.s = some true) (hop : o.op = .mapUpdate t x kx v ∨ o.op = .insert t x kx v) (hd : o.dst = none)
    (hx : ev st.s x = .map j) (hm : st.m j = some (.map ents)) (h1 : T.map t = some (kt, e)) (hk : toKey (ev st.s kx) = some key) (hkt : keyTy T kt key = true) (hv : valA (ev st.s v) = some y) (hf : findE key ents = some r)
    (hr : RunsW P T kp base ops K f (listed.setIfInBounds i true) ⟨st.s, upd st.m j (some (.map (putE key y ents r)))⟩) (tl : Steps P T kp base ops K f listed st rl) : Steps P T kp base ops K f listed st (i :: rl) :=
  ⟨⟨o, _, ho, .eff (eff_put hT ⟨h, hop, hd, hx, hm, h1, hk, hkt, hv, hf⟩), hr⟩, tl⟩
end
/-! ### A move may be taken first, whatever else there is -/
def apartB (ops : Array Oper) (listed : Array Bool) (i : Nat) : Bool := match ops[i]? with
  | some oi => (List.range ops.size).all fun j => j == i || listed.getD j true || (match ops[j]? with | some oj => (oj.after.any fun e => Region.binds .any e && e.on == i) || oi.apart ops oj | none => true)
  | none => false
def noSelB (ops : Array Oper) : Bool := ops.all fun o => match o.op with | .select _ _ => false | _ => true
/-- What the rest of a region comes to, whatever the order. -/
def RX (P : Go.Program) (R : Ref) (n : Nat) (ds : List Deferred) (ops : Array Oper) (K : St → Prop) (f : Nat) (listed : Array Bool) (st : St) : Prop :=
  listed.size = ops.size → ClosedL ops listed → ∀ a w, SR R n ds st a w → wpAny P .any ops (fun e a w => ∃ st', (e = Exit.normal ∧ K st') ∧ SR R n ds st' a w) f listed a w
section
variable {P : Go.Program} {T : Tab} {R : Ref} {n : Nat} {ds : List Deferred} {base : Nat} {ops : Array Oper} {K : St → Prop}
theorem rx_runs (hT : T.Ok P) (hd : dstOk n ops = true) {f : Nat} {listed : Array Bool} {st : St} (h : RunsW P T R.keep base ops K f listed st) : RX P R n ds ops K f listed st := fun h1 h2 a w hr =>
  runs_snd hT (dstOk_spec hd) (fun st' a w hk hr' => ⟨st', ⟨rfl, hk⟩, hr'⟩) _ _ st a _ (h h1 h2 hr.wf) hr
theorem rx_pure (hT : T.Ok P) (hd : dstOk n ops = true) (hns : noSelB ops = true) {f : Nat} {listed : Array Bool} {st : St} (i : Nat) {o : Oper} (ho : ops[i]? = some o) (hpu : ∀ a w, SR R n ds st a w → ∃ v, ∀ w', (execOp a.eval o).run P w' = .ok (.value v) w') (hg : o.guard = none) (hi : (Region.ready .any ops listed).contains i = true) (hap : apartB ops listed i = true)
    (h : ∃ st1, exec1 T base ops i st = some st1 ∧ RX P R n ds ops K f (listed.setIfInBounds i true) st1) : RX P R n ds ops K (f + 1) listed st := by
  intro hsz hc a w hr
  obtain ⟨st1, h1, h2⟩ := h
  have hi : i ∈ Region.ready .any ops listed := by simpa using hi
  obtain ⟨o', ho', hs⟩ := exec1_hs (P := P) (kp := R.keep) h1
  rw [ho] at ho'; cases ho'
  have hwant : ∀ a : Act, Region.wanted o (yielded ops a.tmps) = true := fun a => by simp [Region.wanted, hg]
  obtain ⟨v, hrun⟩ := hpu a w hr
  have hgo := hs.snd hT hr (hd := fun d e => dstOk_spec hd o (Array.mem_of_getElem? ho) d e) (K := fun a' w' => SR R n ds st1 a' w') (Q := fun _ _ _ => False) (fun a' w' hr' => hr')
  rw [if_pos (hwant a)] at hgo
  unfold Oper.wp at hgo
  rw [hrun] at hgo
  refine wpAny_first (oi := o) (v := v) ho (fun j oj cs b hj e => ?_) (fun c a w hq => by obtain ⟨_, ⟨hq, -⟩, -⟩ := hq; cases hq) f listed a w (fun j oj hj hji hl hne => ?_) hi (.inl ⟨hwant a, hrun⟩) (h2 (by simpa using hsz) (closed_set hsz hc hi) _ _ hgo)
  · have := Array.all_eq_true.1 hns j (Array.getElem?_eq_some_iff.1 hj).1
    rw [(Array.getElem?_eq_some_iff.1 hj).2, e] at this
    cases this
  · unfold apartB at hap
    rw [ho] at hap
    have hlt := (Array.getElem?_eq_some_iff.1 hj).1
    have := List.all_eq_true.1 hap j (List.mem_range.2 hlt)
    simp only [Bool.or_eq_true, beq_iff_eq, hj] at this
    rcases this with (z | z) | z | z
    · exact absurd z hji
    · rw [Array.getD_eq_getD_getElem?] at z hl
      rw [hl] at z; cases z
    · obtain ⟨q, hq, hz⟩ := Array.any_eq_true'.1 z
      simp only [Bool.and_eq_true, beq_iff_eq] at hz
      exact absurd hz.2 (hne q hq hz.1)
    · exact z
theorem rx_move (hT : T.Ok P) (hd : dstOk n ops = true) (hns : noSelB ops = true) {f : Nat} {listed : Array Bool} {st : St} (i : Nat) {o : Oper} {x : Operand} (ho : ops[i]? = some o) (hop : o.op = .move x) (hg : o.guard = none) (hi : (Region.ready .any ops listed).contains i = true) (hap : apartB ops listed i = true)
    (h : ∃ st1, exec1 T base ops i st = some st1 ∧ RX P R n ds ops K f (listed.setIfInBounds i true) st1) : RX P R n ds ops K (f + 1) listed st :=
  rx_pure hT hd hns i ho (fun a w _ => ⟨a.eval x, fun w' => by simp [execOp, hop]⟩) hg hi hap h
/-- .. and the address of a box's field. -/
theorem rx_field (hT : T.Ok P) (hd : dstOk n ops = true) (hns : noSelB ops = true) {f : Nat} {listed : Array Bool} {st : St} (i : Nat) {o : Oper} {ty fl j off : Nat} {x : Operand} {q : Nat × Nat × Bool} (ho : ops[i]? = some o) (hop : o.op = .fieldAddr ty x fl) (hx : ev st.s x = .ptr j off) (hq : T.off ty fl = some q) (hg : o.guard = none) (hi : (Region.ready .any ops listed).contains i = true) (hap : apartB ops listed i = true)
    (h : ∃ st1, exec1 T base ops i st = some st1 ∧ RX P R n ds ops K f (listed.setIfInBounds i true) st1) : RX P R n ds ops K (f + 1) listed st :=
  rx_pure hT hd hns i ho (fun a w hr => by
    obtain ⟨B, I, hm, -, -, hs⟩ := hr.ex
    have := ev_rv hs x
    rw [hx] at this
    obtain ⟨b, -, hv⟩ := this
    obtain ⟨o1, n1, g1⟩ := q
    exact ⟨.pointer (some ⟨b, off + o1, none⟩), fun w' => by simp only [execOp, hop, hv, Sem.run_bind, run_fieldAddr hT hq, Result.andThen_ok]; rfl⟩) hg hi hap h
theorem W.regionX (hT : T.Ok P) {id : Nat} {st : St} {Kx : Exit → St → Prop} (hm : P.follows .mixedOrders = true) (can : St) (h : RX P R n ds ops (fun st' => Le R.keep st' can) ops.size (Array.replicate ops.size false) st) (hK : ∀ st', Le R.keep st' can → Kx .normal st') : W P R n ds st (.region id ops true) Kx := by
  intro a w hr
  have hx := h (by simp) (closed_none rfl) a { w with drawn := w.drawn + 1 } (by
    obtain ⟨⟨B, I, hmr, hx0, hkp, hs⟩, h2, h3, hnn, h4, h5⟩ := hr
    have hE : Ext w w.drew I I := ⟨fun _ _ k => k, fun _ _ _ => rfl⟩
    exact ⟨⟨B, I, hmr.call (Below.refl _ _).drew, hx0.trans hE, hkp, fun t => (hs t).mono hE fun _ _ => rfl⟩, h2, h3, hnn, h4, h5⟩)
  exact wp_mono (wp_region_any hm hx) fun e a w ⟨st', ⟨he, hk⟩, hs⟩ => ⟨st', he ▸ hK st' hk, hs⟩
end
end V
end Go.Proofs.Ytgaipdillmleeaa
end
section
/- The program's step walked. -/
set_option linter.unusedVariables false
set_option linter.unusedSimpArgs false
namespace Go.Proofs.Ytgaipdillmleeaa
namespace V
open Go.RowKit AS
theorem step_callE {P : Go.Program} {T : Tab} {kp : Nat → Prop} {base : Nat} {ops : Array Oper} {K : St → Prop} {f i : Nat} {listed : Array Bool} {st : St} {rl : List Nat} {o : Oper} {r : A} {c : Call} {x : Operand} {g : FuncId} {ids : List Nat} {args : List A} {D : List Nat} {M' : Mem} {d : Nat} (ho : ops[i]? = some o) (hd : o.dst = some d) (h : wantA ops o st.s = some true) (hop : o.op = .call c) (hc : c.callee = .value x) (hbar : kind T o.op = .barrier) (hx : ev st.s x = .fn g ids) (hkp : ∀ j ∈ D, ¬ kp j) (hb : ∀ j ∈ ids, ∃ ty cells, st.m j = some (.box ty cells))
    (ha : Cvs st.m (c.args.toList.map (ev st.s) ++ ids.map (A.ptr · 0)) args) (hk : CallE P g args st.m D r M') (hr : RunsW P T kp base ops K f (listed.setIfInBounds i true) ⟨upd (killL D st.s) d r, M'⟩) (tl : Steps P T kp base ops K f listed st rl) : Steps P T kp base ops K f listed st (i :: rl) :=
  ⟨⟨o, _, ho, .eff (eff_call hkp hbar h hop hc hx hb ha hk), by rw [hd]; exact hr⟩, tl⟩
theorem W.cutK {P : Go.Program} {R : Ref} {n : Nat} {ds : List Deferred} {st : St} {x y : Code} {K : Exit → St → Prop} (can : St) (h : W P R n ds st x (fun e st' => e = .normal ∧ Le R.keep st' can)) (k : W P R n ds can y K) : W P R n ds st x (thenK (fun st' => W P R n ds st' y K) K) :=
  W.mono h fun e st' ⟨h1, h2⟩ => by subst h1; exact W.weaken h2 k
theorem asks_small {k : Int} : ∀ {es : List Expr}, es.length ≤ 1048576 → SmEs es → (asksB k es).length ≤ 4000000 ∧ ∀ x ∈ asksB k es, SmE x
  | [], h1, h2 => ⟨by simp [asksB, ownB], fun x hx => by simp [asksB, ownB] at hx⟩
  | ⟨xk, xn, xm, xs⟩ :: tl, h1, h2 => by
    have h3 := h2
    simp only [SmEs, SmE] at h3
    unfold asksB
    split
    · refine ⟨?_, fun x hx => ?_⟩
      · simp only [List.length_append, List.length_cons] at h1 ⊢; omega
      · rcases List.mem_append.1 hx with hx | hx
        · exact h3.1.2.mem hx
        · exact h3.2.mem hx
    · exact ⟨Nat.le_trans h1 (by decide), fun x hx => h2.mem hx⟩
set_option maxHeartbeats 8000000 in
theorem step_of (k nn : Int) (ty nm : ByteArray) (es : List Expr) (th el : List Stmt) (hS : SmS ⟨k, nn, ty, nm, es, th, el⟩)
    (hT : ∀ (L : List Nm) (j : Nat) (M : Mem) (b : Nat), (∀ d, M (b + d) = none) → M j = some (.names (some L)) → L.length + cntSs th ≤ 1000000000000 → CallE Try.prog 12 [.map j, .c (.sl (th.map cStmt))] M [j] (resN (runB L th).1 (runB L th).2 j) (jnM M j (runB L th).1))
    (hE : ∀ (L : List Nm) (j : Nat) (M : Mem) (b : Nat), (∀ d, M (b + d) = none) → M j = some (.names (some L)) → L.length + cntSs el ≤ 1000000000000 → CallE Try.prog 12 [.map j, .c (.sl (el.map cStmt))] M [j] (resN (runB L el).1 (runB L el).2 j) (jnM M j (runB L el).1))
    (L : List Nm) (hlen : ∀ LT, (runB L th).1 = some LT → LT.length ≤ L.length + cntSs th) (j : Nat) (M : Mem) (b : Nat) (hM : ∀ d, M (b + d) = none) (hj : M j = some (.names (some L))) (hL : L.length + cntSs th + cntSs el ≤ 1000000000000) :
    CallE Try.prog 18 [.map j, .agg (cStmt ⟨k, nn, ty, nm, es, th, el⟩)] M [j] (resN (stepB L ⟨k, nn, ty, nm, es, th, el⟩).1 (stepB L ⟨k, nn, ty, nm, es, th, el⟩).2 j) (jnM M j (stepB L ⟨k, nn, ty, nm, es, th, el⟩).1) := by
  have hjb : ∀ d, (j = b + d) = False := base_ne hM hj
  have hjb' : ∀ d, (b + d = j) = False := base_ne' hM hj
  have hjs : (M j).isSome = true := by rw [hj]; rfl
  simp only [SmS] at hS
  obtain ⟨s1, s2, s3, s4, s5, s6⟩ := hS
  refine ok_effN tab_ok j _ _ Try.func18 (by kernel_rfl) rfl rfl (by rfl) (by rfl) (fun a ha i hi => ?_) hjs (fun hWF Rr hkeep => ?_)
  · simp at ha; rcases ha with rfl | rfl <;> simp [A.ids] at hi; subst hi; exact hjs
  have nk : ¬ Rr.keep j := by rw [hkeep]; exact fun h => h.2 (by simp)
  simp only [cStmt, cExprs_map, cStmts_map]
  obtain ⟨B2, hB2⟩ : ∃ o : O, o = .box 39 [.map j] := ⟨_, rfl⟩
  obtain ⟨B3, hB3⟩ : ∃ o : O, o = .box 36 [.c (.int .i64 k), .c (.int .i64 nn), .c (.str ty), .c (.str nm), .c (.sl (es.map cExpr)), .c (.sl (th.map cStmt)), .c (.sl (el.map cStmt))] := ⟨_, rfl⟩
  obtain ⟨M2, hM2⟩ : ∃ m : Mem, m = upd (upd M (b + 2) (some B2)) (b + 3) (some B3) := ⟨_, rfl⟩
  have hfar : ∀ d, M2 (b + 20 + d) = none := fun d => by
    rw [hM2, upd_ne _ _ (by omega), upd_ne _ _ (by omega), Nat.add_assoc]; exact hM _
  have h2j : M2 j = some (.names (some L)) := by
    rw [hM2, upd_ne _ _ (fun e => cast (hjb _) e), upd_ne _ _ (fun e => cast (hjb _) e)]; exact hj
  have h22 : M2 (b + 2) = some B2 := by
    rw [hM2, upd_ne _ _ (by omega), upd_same]
  have h23 : M2 (b + 3) = some B3 := by rw [hM2, upd_same]
  have hW2 : WFm M2 := by
    subst hM2 hB2 hB3
    exact mwf_some (mwf_some hWF (fun i hi => by simp [O.ids, A.ids] at hi; subst hi; rw [upd_ne _ _ (fun e => cast (hjb _) e)]; exact hjs)) (fun i hi => by simp [O.ids, A.ids] at hi)
  have kept2 : ∀ i, Rr.keep i → (M2 i).isSome = true := fun i hi => by rw [hkeep] at hi; rw [hM2]; exact live_upd i (live_upd i hi.1)
  repeat (first | refine W.seq ?_ | refine W.block ?_)
  refine W.cutK ⟨upd (upd (fun _ => .top) 2 (.ptr (b + 2) 0)) 3 (.ptr (b + 3) 0), M2⟩ ?_ ?_
  · subst hM2 hB2 hB3
    repeat (first | refine W.seq ?_ | refine W.block ?_ | refine W.skip ?_ | refine W.exit ?_ | refine W.region tab_ok b (by decide) (exec_run (by simp only [exa, beq_self_eq_true, ByteArray.size, Nat.reduceAdd, Nat.reduceLeDiff, Nat.reduceEqDiff, Nat.reduceMul, Int.reduceToNat, reduceIte, Int.reduceLE, Int.reduceNeg, hM, hjb, hjb', Nat.add_left_cancel_iff]; rfl)) ?_)
    refine ⟨rfl, ?_⟩
    (refine le_mk ?sle ?mle ?swf ?mwf (kept2) (by rfl)
     case swf => repeat (first | exact swf_top _ | refine swf_upd ?_ (by simp [A.ids, upd_app, h22, h23]))
     case mwf => exact hW2
     case sle => repeat (first | exact sle_top _ | exact sle_refl _ | refine sle_upd ?_ (by first | rfl | (simp only [upd_app, killS_app, A.kill, entry_zero, entry_succ, Nat.reduceEqDiff, reduceIte] <;> rfl)))
     case mle => exact mle_refl' rfl)
  refine W.seq ?_
  refine W.cutK ⟨upd (upd (upd (fun _ => .top) 2 (.ptr (b + 2) 0)) 3 (.ptr (b + 3) 0)) 6 (.c (.bool (ownB k es))), M2⟩ ?_ ?_
  · cases es with
    | nil =>
      have ho : ownB k [] = false := rfl
      rw [ho]
      by_cases h2 : k = 2
      · subst h2
        repeat (first | refine W.seq ?_ | refine W.block ?_ | refine W.skip ?_ | refine W.exit ?_ | refine W.region tab_ok b (by decide) (exec_run (by simp only [exa, beq_self_eq_true, ByteArray.size, Nat.reduceAdd, Nat.reduceLeDiff, Nat.reduceEqDiff, Nat.reduceMul, Int.reduceToNat, reduceIte, Int.reduceLE, Int.reduceNeg, h22, h23, hB3, List.map_nil]; rfl)) ?_)
        refine ⟨rfl, ?_⟩
        (refine le_mk ?sle ?mle ?swf ?mwf (kept2) (by rfl)
         case swf => repeat (first | exact swf_top _ | refine swf_upd ?_ (by simp [A.ids, upd_app, h22, h23]))
         case mwf => exact hW2
         case sle => repeat (first | exact sle_top _ | exact sle_refl _ | refine sle_upd ?_ (by first | rfl | (simp only [upd_app, killS_app, A.kill, entry_zero, entry_succ, Nat.reduceEqDiff, reduceIte] <;> rfl)))
         case mle => exact mle_refl' rfl)
      · have h2' : decide (k = 2) = false := by simp [h2]
        repeat (first | refine W.seq ?_ | refine W.block ?_ | refine W.skip ?_ | refine W.exit ?_ | refine W.region tab_ok b (by decide) (exec_run (by simp only [exa, beq_self_eq_true, ByteArray.size, Nat.reduceAdd, Nat.reduceLeDiff, Nat.reduceEqDiff, Nat.reduceMul, Int.reduceToNat, reduceIte, Int.reduceLE, Int.reduceNeg, h22, h23, hB3, h2']; rfl)) ?_)
        refine ⟨rfl, ?_⟩
        (refine le_mk ?sle ?mle ?swf ?mwf (kept2) (by rfl)
         case swf => repeat (first | exact swf_top _ | refine swf_upd ?_ (by simp [A.ids, upd_app, h22, h23]))
         case mwf => exact hW2
         case sle => repeat (first | exact sle_top _ | exact sle_refl _ | refine sle_upd ?_ (by first | rfl | (simp only [upd_app, killS_app, A.kill, entry_zero, entry_succ, Nat.reduceEqDiff, reduceIte] <;> rfl)))
         case mle => exact mle_refl' rfl)
    | cons x tl =>
      obtain ⟨xk, xn, xm, xs⟩ := x
      have ho : ownB k (⟨xk, xn, xm, xs⟩ :: tl) = (decide (k = 2) && decide (xk = 4)) := rfl
      rw [ho]
      by_cases h2 : k = 2
      · subst h2
        have hpos : (0 : Int) < ((tl.length + 1 : Nat) : Int) := by omega
        repeat (first | refine W.seq ?_ | refine W.block ?_ | refine W.skip ?_ | refine W.exit ?_ | refine W.region tab_ok b (by decide) (exec_run (by simp only [exa, beq_self_eq_true, ByteArray.size, Nat.reduceAdd, Nat.reduceLeDiff, Nat.reduceEqDiff, Nat.reduceMul, Int.reduceToNat, reduceIte, Int.reduceLE, Int.reduceNeg, h22, h23, hB3, List.map_cons, cExpr, List.length_cons, List.length_map, hpos, decide_true]; rfl)) ?_)
        refine ⟨rfl, ?_⟩
        simp only [decide_true, Bool.true_and]
        (refine le_mk ?sle ?mle ?swf ?mwf (kept2) (by rfl)
         case swf => repeat (first | exact swf_top _ | refine swf_upd ?_ (by simp [A.ids, upd_app, h22, h23]))
         case mwf => exact hW2
         case sle => repeat (first | exact sle_top _ | exact sle_refl _ | refine sle_upd ?_ (by first | rfl | (simp only [upd_app, killS_app, A.kill, entry_zero, entry_succ, Nat.reduceEqDiff, reduceIte] <;> rfl)))
         case mle => exact mle_refl' rfl)
      · have h2' : decide (k = 2) = false := by simp [h2]
        repeat (first | refine W.seq ?_ | refine W.block ?_ | refine W.skip ?_ | refine W.exit ?_ | refine W.region tab_ok b (by decide) (exec_run (by simp only [exa, beq_self_eq_true, ByteArray.size, Nat.reduceAdd, Nat.reduceLeDiff, Nat.reduceEqDiff, Nat.reduceMul, Int.reduceToNat, reduceIte, Int.reduceLE, Int.reduceNeg, h22, h23, hB3, h2']; rfl)) ?_)
        refine ⟨rfl, ?_⟩
        simp only [h2', Bool.false_and]
        (refine le_mk ?sle ?mle ?swf ?mwf (kept2) (by rfl)
         case swf => repeat (first | exact swf_top _ | refine swf_upd ?_ (by simp [A.ids, upd_app, h22, h23]))
         case mwf => exact hW2
         case sle => repeat (first | exact sle_top _ | exact sle_refl _ | refine sle_upd ?_ (by first | rfl | (simp only [upd_app, killS_app, A.kill, entry_zero, entry_succ, Nat.reduceEqDiff, reduceIte] <;> rfl)))
         case mle => exact mle_refl' rfl)
  repeat (first | refine W.seq ?_ | refine W.block ?_ | refine W.skip ?_ | refine W.exit ?_ | refine W.region tab_ok b (by decide) (exec_run (by simp only [exa, beq_self_eq_true, ByteArray.size, Nat.reduceAdd, Nat.reduceLeDiff, Nat.reduceEqDiff, Nat.reduceMul, Int.reduceToNat, reduceIte, Int.reduceLE, Int.reduceNeg, h22, h23, hB3]; rfl)) ?_)
  refine W.cutK ⟨upd (upd (upd (upd (fun _ => .top) 2 (.ptr (b + 2) 0)) 3 (.ptr (b + 3) 0)) 6 (.c (.bool (ownB k es)))) 7 (.c (.sl ((asksB k es).map cExpr))), M2⟩ ?_ ?_
  · cases es with
    | nil =>
      refine W.cond rfl (fun h => absurd h (by simp [ownB])) (fun _ => ?_)
      repeat (first | refine W.seq ?_ | refine W.block ?_ | refine W.skip ?_ | refine W.exit ?_ | refine W.region tab_ok b (by decide) (exec_run (by simp only [exa, beq_self_eq_true, ByteArray.size, Nat.reduceAdd, Nat.reduceLeDiff, Nat.reduceEqDiff, Nat.reduceMul, Int.reduceToNat, reduceIte, Int.reduceLE, Int.reduceNeg]; rfl)) ?_)
      refine ⟨rfl, ?_⟩
      have ha : asksB k [] = [] := rfl
      rw [ha]
      (refine le_mk ?sle ?mle ?swf ?mwf (kept2) (by rfl)
       case swf => repeat (first | exact swf_top _ | refine swf_upd ?_ (by simp [A.ids, upd_app, h22, h23]))
       case mwf => exact hW2
       case sle => repeat (first | exact sle_top _ | exact sle_refl _ | refine sle_upd ?_ (by first | rfl | (simp only [upd_app, killS_app, A.kill, entry_zero, entry_succ, Nat.reduceEqDiff, reduceIte] <;> rfl)))
       case mle => exact mle_refl' rfl)
    | cons x tl =>
      obtain ⟨xk, xn, xm, xs⟩ := x
      cases ho : ownB k (⟨xk, xn, xm, xs⟩ :: tl) with
      | false =>
        refine W.cond rfl (fun h => absurd h (by simp)) (fun _ => ?_)
        repeat (first | refine W.seq ?_ | refine W.block ?_ | refine W.skip ?_ | refine W.exit ?_ | refine W.region tab_ok b (by decide) (exec_run (by simp only [exa, beq_self_eq_true, ByteArray.size, Nat.reduceAdd, Nat.reduceLeDiff, Nat.reduceEqDiff, Nat.reduceMul, Int.reduceToNat, reduceIte, Int.reduceLE, Int.reduceNeg]; rfl)) ?_)
        refine ⟨rfl, ?_⟩
        have ha : asksB k (⟨xk, xn, xm, xs⟩ :: tl) = ⟨xk, xn, xm, xs⟩ :: tl := by simp [asksB, ho]
        rw [ha]
        (refine le_mk ?sle ?mle ?swf ?mwf (kept2) (by rfl)
         case swf => repeat (first | exact swf_top _ | refine swf_upd ?_ (by simp [A.ids, upd_app, h22, h23]))
         case mwf => exact hW2
         case sle => repeat (first | exact sle_top _ | exact sle_refl _ | refine sle_upd ?_ (by first | rfl | (simp only [upd_app, killS_app, A.kill, entry_zero, entry_succ, Nat.reduceEqDiff, reduceIte] <;> rfl)))
         case mle => exact mle_refl' rfl)
      | true =>
        refine W.cond rfl (fun _ => ?_) (fun h => absurd h (by simp))
        have ha : asksB k (⟨xk, xn, xm, xs⟩ :: tl) = xs ++ tl := by simp [asksB, ho]
        rw [ha]
        have hcc := concat_ok [xs, tl] (by simp) (by
          simp only [SmEs, SmE] at s2
          simp only [List.flatten_cons, List.flatten_nil, List.append_nil, List.length_append]
          simp only [List.length_cons] at s1
          omega)
        simp only [List.map_cons, List.map_nil, cPart, List.flatten_cons, List.flatten_nil, List.append_nil] at hcc
        have hall : (∀ z, z ∈ [C.int IntKind.i64 xk, C.int IntKind.i64 xn, C.str xm, C.sl (xs.map cExpr)] :: tl.map cExpr → z.length = 4) = True := eq_true fun z hz => by
          rcases List.mem_cons.1 hz with rfl | hz
          · rfl
          · obtain ⟨y, -, rfl⟩ := List.mem_map.1 hz; cases y; rfl
        have htk : List.take tl.length (tl.map cExpr) = tl.map cExpr := List.take_of_length_le (by simp)
        refine W.regionDK tab_ok b follows_mixed (by kernel_rfl) (by decide) ?_
        refine runk_split 7 (by simp only [exa, beq_self_eq_true, ByteArray.size, Nat.reduceAdd, Nat.reduceLeDiff, Nat.reduceEqDiff, Nat.reduceMul, Int.reduceToNat, reduceIte, Int.reduceLE, Int.reduceNeg, h22, h23, hB3, List.map_cons, cExpr, cExprs_map, List.length_cons, List.length_map, hall, htk, or_true, and_true, Nat.le_refl]; rfl) ?_
        refine runk_call rfl rfl rfl rfl rfl (by simp) (cvs_cons cv_refl cvs_nil) (hcc _) ?_
        refine runk_exec (by simp only [exa, beq_self_eq_true, ByteArray.size, Nat.reduceAdd, Nat.reduceLeDiff, Nat.reduceEqDiff, Nat.reduceMul, Int.reduceToNat, reduceIte, Int.reduceLE, Int.reduceNeg]; rfl) ?_
        refine ⟨rfl, ?_⟩
        (refine le_mk ?sle ?mle ?swf ?mwf (kept2) (by rfl)
         case swf => repeat (first | exact swf_top _ | refine swf_upd ?_ (by simp [A.ids, upd_app, h22, h23]))
         case mwf => exact hW2
         case sle => repeat (first | exact sle_top _ | exact sle_refl _ | refine sle_upd ?_ (by first | rfl | (simp only [upd_app, killS_app, A.kill, entry_zero, entry_succ, Nat.reduceEqDiff, reduceIte] <;> rfl)))
         case mle => exact mle_refl' rfl)
  obtain ⟨aq, hasE⟩ : ∃ l, l = asksB k es := ⟨_, rfl⟩
  have hasm : aq.length ≤ 4000000 ∧ ∀ x ∈ aq, SmE x := hasE ▸ asks_small s1 s2
  rw [← hasE]
  have hct := contains_ok aq (by omega) 25 (b + 2) M2 (fun x => !askB L x) (b + 20) hfar (hB2 ▸ h22) (fun x hx => step1_of x L M2 (b + 20) j (b + 2) hfar h2j (hB2 ▸ h22) (fun M b hM hj => ask_ok _ x (Nat.le_refl _) (hasm.2 x hx) L j M b hM hj))
  have hk2 : ∀ u z, u ≠ j → M u = some z → M2 u = some z := fun u z hu hz => by
    rw [hM2, upd_ne _ _ (fun e => by subst e; rw [hM] at hz; cases hz), upd_ne _ _ (fun e => by subst e; rw [hM] at hz; cases hz)]; exact hz
  have hst : stepB L ⟨k, nn, ty, nm, es, th, el⟩ = if askBs L aq = false then (none, false)
    else if k = 1 then (some (if es.isEmpty = true then delN (bs nm) L else insN (bs nm) (delN (bs nm) L)), true)
    else if k = 2 then (some (if ownB k es = true then insN (headN es) L else L), true)
    else if k = 3 then (meetO (runB L th).1 (runB L el).1, (runB L th).2 && (runB L el).2)
    else if k = 4 then (some L, (runB L th).2)
    else if k = 6 then (none, true)
    else (some L, true) := by rw [hasE]; simp only [stepB]
  rw [hst]
  repeat (first | refine W.seq ?_ | refine W.block ?_ | refine W.skip ?_ | refine W.exit ?_ | refine W.region tab_ok b (by decide) (exec_run (by simp only [exa, beq_self_eq_true, ByteArray.size, Nat.reduceAdd, Nat.reduceLeDiff, Nat.reduceEqDiff, Nat.reduceMul, Int.reduceToNat, reduceIte, Int.reduceLE, Int.reduceNeg]; rfl)) ?_)
  refine W.regionK tab_ok b (by decide) ?_
  refine runk_split 2 (by simp only [exa, beq_self_eq_true, ByteArray.size, Nat.reduceAdd, Nat.reduceLeDiff, Nat.reduceEqDiff, Nat.reduceMul, Int.reduceToNat, reduceIte, Int.reduceLE, Int.reduceNeg]; rfl) ?_
  refine runk_callE (D := []) rfl rfl rfl rfl rfl (fun j hj => by simp at hj) (by simp) (cvs_cons cv_refl (cvs_cons cv_refl cvs_nil)) hct ?_
  simp only [killL, putS, upd_upd]
  refine runk_exec (by simp only [exa, beq_self_eq_true, ByteArray.size, Nat.reduceAdd, Nat.reduceLeDiff, Nat.reduceEqDiff, Nat.reduceMul, Int.reduceToNat, reduceIte, Int.reduceLE, Int.reduceNeg]; rfl) ?_
  rw [askBs_any]
  cases hask : aq.any fun x => !askB L x with
  | true =>
    refine W.cond rfl (fun _ => ?_) (fun h => absurd h (by simp))
    repeat (first | refine W.seq ?_ | refine W.block ?_ | refine W.skip ?_ | refine W.exit ?_ | refine W.region tab_ok b (by decide) (exec_run (by simp only [exa, beq_self_eq_true, ByteArray.size, Nat.reduceAdd, Nat.reduceLeDiff, Nat.reduceEqDiff, Nat.reduceMul, Int.reduceToNat, reduceIte, Int.reduceLE, Int.reduceNeg]; rfl)) ?_)
    refine W.ret ⟨.inr rfl, by rfl, j, (some L), ?res, ?hi, ?hx, ?hij, ?keep⟩
    case res => simp only [Try.f18, resE, resOne, fin, toT, resN, exa, beq_self_eq_true, ByteArray.size, Nat.reduceAdd, Nat.reduceLeDiff, Nat.reduceEqDiff, Nat.reduceMul, Int.reduceToNat, reduceIte, Int.reduceLE, Int.reduceNeg, Bool.not_true] <;> rfl
    case hi => exact h2j
    case hx => exact .inr rfl
    case hij => exact .inl rfl
    case keep => exact fun u z hu hz => .inl (hk2 u z hu hz)
  | false =>
    refine W.cond rfl (fun h => absurd h (by simp)) (fun _ => ?_)
    rw [if_neg (by simp)]
    repeat (first | refine W.seq ?_ | refine W.block ?_ | refine W.skip ?_ | refine W.exit ?_ | refine W.region tab_ok b (by decide) (exec_run (by simp only [exa, beq_self_eq_true, ByteArray.size, Nat.reduceAdd, Nat.reduceLeDiff, Nat.reduceEqDiff, Nat.reduceMul, Int.reduceToNat, reduceIte, Int.reduceLE, Int.reduceNeg, h22, h23, hB3]; rfl)) ?_)
    by_cases k1 : k = 1
    · subst k1
      rw [if_pos rfl]
      refine W.cond rfl (fun _ => ?_) (fun h => absurd h (by simp))
      (repeat (first | refine W.seq ?_ | refine W.block ?_))
      refine W.regionK tab_ok b (by decide) ?_
      refine runk_split 3 (by simp only [exa, beq_self_eq_true, ByteArray.size, Nat.reduceAdd, Nat.reduceLeDiff, Nat.reduceEqDiff, Nat.reduceMul, Int.reduceToNat, reduceIte, Int.reduceLE, Int.reduceNeg, h22, h23, hB3, hB2]; rfl) ?_
      refine runk_delN tab_ok rfl rfl rfl rfl rfl rfl rfl h2j rfl rfl rfl ?_
      refine runk_exec (by simp only [exa, beq_self_eq_true, ByteArray.size, Nat.reduceAdd, Nat.reduceLeDiff, Nat.reduceEqDiff, Nat.reduceMul, Int.reduceToNat, reduceIte, Int.reduceLE, Int.reduceNeg]; rfl) ?_
      have e22 : upd M2 j (some (.names (some (delN (bs nm) L)))) (b + 2) = some B2 := (upd_ne _ _ (fun e => cast (hjb' _) e)).trans h22
      have e23 : upd M2 j (some (.names (some (delN (bs nm) L)))) (b + 3) = some B3 := (upd_ne _ _ (fun e => cast (hjb' _) e)).trans h23
      obtain ⟨M3, hM3⟩ : ∃ m, m = upd M2 j (some (.names (some (delN (bs nm) L)))) := ⟨_, rfl⟩
      have e3j : M3 j = some (.names (some (delN (bs nm) L))) := by rw [hM3, upd_same]
      rw [← hM3] at e22 e23 ⊢
      cases es with
      | nil =>
        repeat (first | refine W.seq ?_ | refine W.block ?_ | refine W.skip ?_ | refine W.exit ?_ | refine W.region tab_ok b (by decide) (exec_run (by simp only [exa, beq_self_eq_true, ByteArray.size, Nat.reduceAdd, Nat.reduceLeDiff, Nat.reduceEqDiff, Nat.reduceMul, Int.reduceToNat, reduceIte, Int.reduceLE, Int.reduceNeg, e22, e23, hB3, hB2, List.map_nil]; rfl)) ?_)
        refine W.cond rfl (fun h => absurd h (by simp)) (fun _ => ?_)
        repeat (first | refine W.seq ?_ | refine W.block ?_ | refine W.skip ?_ | refine W.exit ?_ | refine W.region tab_ok b (by decide) (exec_run (by simp only [exa, beq_self_eq_true, ByteArray.size, Nat.reduceAdd, Nat.reduceLeDiff, Nat.reduceEqDiff, Nat.reduceMul, Int.reduceToNat, reduceIte, Int.reduceLE, Int.reduceNeg, e22, e23, hB3, hB2, List.map_nil]; rfl)) ?_)
        refine W.ret ⟨.inr rfl, by rfl, j, (some (delN (bs nm) L)), ?res, ?hi, ?hx, ?hij, ?keep⟩
        case res => simp only [Try.f18, resE, resOne, fin, toT, resN, exa, beq_self_eq_true, ByteArray.size, Nat.reduceAdd, Nat.reduceLeDiff, Nat.reduceEqDiff, Nat.reduceMul, Int.reduceToNat, reduceIte, Int.reduceLE, Int.reduceNeg] <;> rfl
        case hi => exact e3j
        case hx => exact .inl rfl
        case hij => exact .inl rfl
        case keep => exact fun u z hu hz => .inl (by rw [hM3]; exact (upd_ne _ _ hu).trans (hk2 u z hu hz))
      | cons x tl =>
        have hpos : (0 : Int) < ((tl.length + 1 : Nat) : Int) := by omega
        repeat (first | refine W.seq ?_ | refine W.block ?_ | refine W.skip ?_ | refine W.exit ?_ | refine W.region tab_ok b (by decide) (exec_run (by simp only [exa, beq_self_eq_true, ByteArray.size, Nat.reduceAdd, Nat.reduceLeDiff, Nat.reduceEqDiff, Nat.reduceMul, Int.reduceToNat, reduceIte, Int.reduceLE, Int.reduceNeg, e22, e23, hB3, hB2, List.map_cons, List.length_cons, List.length_map, hpos, decide_true]; rfl)) ?_)
        refine W.cond rfl (fun _ => ?_) (fun h => absurd h (by simp))
        refine W.regionK tab_ok b (by decide) ?_
        refine runk_split 3 (by simp only [exa, beq_self_eq_true, ByteArray.size, Nat.reduceAdd, Nat.reduceLeDiff, Nat.reduceEqDiff, Nat.reduceMul, Int.reduceToNat, reduceIte, Int.reduceLE, Int.reduceNeg, e22, e23, hB3, hB2]; rfl) ?_
        refine runk_putN tab_ok rfl rfl rfl rfl e3j rfl rfl rfl rfl ?_
        refine runk_exec (by simp only [exa, beq_self_eq_true, ByteArray.size, Nat.reduceAdd, Nat.reduceLeDiff, Nat.reduceEqDiff, Nat.reduceMul, Int.reduceToNat, reduceIte, Int.reduceLE, Int.reduceNeg]; rfl) ?_
        have f22 : upd M3 j (some (.names (some (insN (bs nm) (delN (bs nm) L))))) (b + 2) = some B2 := (upd_ne _ _ (fun e => cast (hjb' _) e)).trans e22
        repeat (first | refine W.seq ?_ | refine W.block ?_ | refine W.skip ?_ | refine W.exit ?_ | refine W.region tab_ok b (by decide) (exec_run (by simp only [exa, beq_self_eq_true, ByteArray.size, Nat.reduceAdd, Nat.reduceLeDiff, Nat.reduceEqDiff, Nat.reduceMul, Int.reduceToNat, reduceIte, Int.reduceLE, Int.reduceNeg, hjb', e22, hB2]; rfl)) ?_)
        refine W.ret ⟨.inr rfl, by rfl, j, (some (insN (bs nm) (delN (bs nm) L))), ?res, ?hi, ?hx, ?hij, ?keep⟩
        case res => simp only [Try.f18, resE, resOne, fin, toT, resN, exa, beq_self_eq_true, ByteArray.size, Nat.reduceAdd, Nat.reduceLeDiff, Nat.reduceEqDiff, Nat.reduceMul, Int.reduceToNat, reduceIte, Int.reduceLE, Int.reduceNeg] <;> rfl
        case hi => exact upd_same ..
        case hx => exact .inl rfl
        case hij => exact .inl rfl
        case keep => exact fun u z hu hz => .inl ((upd_ne _ _ hu).trans (by rw [hM3]; exact (upd_ne _ _ hu).trans (hk2 u z hu hz)))
    have k1' : decide (k = 1) = false := by simp [k1]
    rw [if_neg k1]
    refine W.cond rfl (fun h => absurd h (by simp [k1])) (fun _ => ?_)
    repeat (first | refine W.seq ?_ | refine W.block ?_ | refine W.skip ?_ | refine W.exit ?_ | refine W.region tab_ok b (by decide) (exec_run (by simp only [exa, beq_self_eq_true, ByteArray.size, Nat.reduceAdd, Nat.reduceLeDiff, Nat.reduceEqDiff, Nat.reduceMul, Int.reduceToNat, reduceIte, Int.reduceLE, Int.reduceNeg, h22, h23, hB3]; rfl)) ?_)
    by_cases k2 : k = 2
    · subst k2
      rw [if_pos rfl]
      refine W.cond rfl (fun _ => ?_) (fun h => absurd h (by simp))
      repeat (first | refine W.seq ?_ | refine W.block ?_ | refine W.skip ?_ | refine W.exit ?_ | refine W.region tab_ok b (by decide) (exec_run (by simp only [exa, beq_self_eq_true, ByteArray.size, Nat.reduceAdd, Nat.reduceLeDiff, Nat.reduceEqDiff, Nat.reduceMul, Int.reduceToNat, reduceIte, Int.reduceLE, Int.reduceNeg, h22, h23, hB3]; rfl)) ?_)
      cases ho : ownB 2 es with
      | false =>
        refine W.cond rfl (fun h => absurd h (by simp)) (fun _ => ?_)
        repeat (first | refine W.seq ?_ | refine W.block ?_ | refine W.skip ?_ | refine W.exit ?_ | refine W.region tab_ok b (by decide) (exec_run (by simp only [exa, beq_self_eq_true, ByteArray.size, Nat.reduceAdd, Nat.reduceLeDiff, Nat.reduceEqDiff, Nat.reduceMul, Int.reduceToNat, reduceIte, Int.reduceLE, Int.reduceNeg, h22, hB2]; rfl)) ?_)
        refine W.ret ⟨.inr rfl, by rfl, j, (some L), ?res, ?hi, ?hx, ?hij, ?keep⟩
        case res => simp only [Try.f18, resE, resOne, fin, toT, resN, exa, beq_self_eq_true, ByteArray.size, Nat.reduceAdd, Nat.reduceLeDiff, Nat.reduceEqDiff, Nat.reduceMul, Int.reduceToNat, reduceIte, Int.reduceLE, Int.reduceNeg] <;> rfl
        case hi => exact h2j
        case hx => exact .inl rfl
        case hij => exact .inl rfl
        case keep => exact fun u z hu hz => .inl (hk2 u z hu hz)
      | true =>
        cases es with
        | nil => cases ho
        | cons x tl =>
          obtain ⟨xk, xn, xm, xs⟩ := x
          refine W.cond rfl (fun _ => ?_) (fun h => absurd h (by simp))
          refine W.regionDK tab_ok b follows_mixed (by kernel_rfl) (by decide) ?_
          refine runk_split 6 (by simp only [exa, beq_self_eq_true, ByteArray.size, Nat.reduceAdd, Nat.reduceLeDiff, Nat.reduceEqDiff, Nat.reduceMul, Int.reduceToNat, reduceIte, Int.reduceLE, Int.reduceNeg, h22, h23, hB3, hB2, List.map_cons, cExpr]; rfl) ?_
          refine runk_putN tab_ok rfl rfl rfl rfl h2j rfl rfl rfl rfl ?_
          refine runk_exec (by simp only [exa, beq_self_eq_true, ByteArray.size, Nat.reduceAdd, Nat.reduceLeDiff, Nat.reduceEqDiff, Nat.reduceMul, Int.reduceToNat, reduceIte, Int.reduceLE, Int.reduceNeg]; rfl) ?_
          have f22 : upd M2 j (some (.names (some (insN (bs xm) L)))) (b + 2) = some B2 := (upd_ne _ _ (fun e => cast (hjb' _) e)).trans h22
          repeat (first | refine W.seq ?_ | refine W.block ?_ | refine W.skip ?_ | refine W.exit ?_ | refine W.region tab_ok b (by decide) (exec_run (by simp only [exa, beq_self_eq_true, ByteArray.size, Nat.reduceAdd, Nat.reduceLeDiff, Nat.reduceEqDiff, Nat.reduceMul, Int.reduceToNat, reduceIte, Int.reduceLE, Int.reduceNeg, hjb', h22, hB2]; rfl)) ?_)
          refine W.ret ⟨.inr rfl, by rfl, j, (some (insN (bs xm) L)), ?res, ?hi, ?hx, ?hij, ?keep⟩
          case res => simp only [Try.f18, resE, resOne, fin, toT, resN, exa, beq_self_eq_true, ByteArray.size, Nat.reduceAdd, Nat.reduceLeDiff, Nat.reduceEqDiff, Nat.reduceMul, Int.reduceToNat, reduceIte, Int.reduceLE, Int.reduceNeg] <;> rfl
          case hi => exact upd_same ..
          case hx => exact .inl rfl
          case hij => exact .inl rfl
          case keep => exact fun u z hu hz => .inl ((upd_ne _ _ hu).trans (hk2 u z hu hz))
    have k2' : decide (k = 2) = false := by simp [k2]
    rw [if_neg k2]
    refine W.cond rfl (fun h => absurd h (by simp [k2])) (fun _ => ?_)
    repeat (first | refine W.seq ?_ | refine W.block ?_ | refine W.skip ?_ | refine W.exit ?_ | refine W.region tab_ok b (by decide) (exec_run (by simp only [exa, beq_self_eq_true, ByteArray.size, Nat.reduceAdd, Nat.reduceLeDiff, Nat.reduceEqDiff, Nat.reduceMul, Int.reduceToNat, reduceIte, Int.reduceLE, Int.reduceNeg, h22, h23, hB3]; rfl)) ?_)
    by_cases k3 : k = 3
    · subst k3
      rw [if_pos rfl]
      refine W.cond rfl (fun _ => ?_) (fun h => absurd h (by simp))
      (repeat (first | refine W.seq ?_ | refine W.block ?_))
      have hq0 : M2 (b + 60) = none := by rw [show b + 60 = b + 20 + 40 by omega]; exact hfar 40
      have hcl := cloneN_ok (M := M2) (j := j) (q := b + 60) (o := some L) h2j hq0
      obtain ⟨oT, okT, hrT⟩ : ∃ o ok, runB L th = (o, ok) := ⟨_, _, rfl⟩
      have hT2 := hT L (b + 60) (upd M2 (b + 60) (some (.names (some L)))) (b + 80) (fun d => by rw [upd_ne _ _ (by omega), show b + 80 + d = b + 20 + (60 + d) by omega]; exact hfar _) (upd_same ..) (by omega)
      rw [hrT] at hT2
      have hjn : jnM (upd M2 (b + 60) (some (.names (some L)))) (b + 60) oT = upd M2 (b + 60) (some (.names oT)) := kill_own hW2 hq0
      simp only [hjn] at hT2
      rw [hrT]
      have nkq : ¬ Rr.keep (b + 60) := by rw [hkeep]; exact fun h => by have h1 := h.1; rw [hM] at h1; cases h1
      obtain ⟨oE, okE, hrE⟩ : ∃ o ok, runB L el = (o, ok) := ⟨_, _, rfl⟩
      have hE2 := hE L j (upd M2 (b + 60) (some (.names oT))) (b + 200) (fun d => by rw [upd_ne _ _ (by omega), show b + 200 + d = b + 20 + (180 + d) by omega]; exact hfar _) ((upd_ne _ _ (fun e => cast (hjb _) e)).trans h2j) (by omega)
      rw [hrE] at hE2 ⊢
      obtain ⟨M3, hM3⟩ : ∃ m, m = upd M2 (b + 60) (some (.names oT)) := ⟨_, rfl⟩
      rw [← hM3] at hT2 hE2
      have h3far : ∀ d, M3 (b + 300 + d) = none := fun d => by rw [hM3, upd_ne _ _ (by omega), show b + 300 + d = b + 20 + (280 + d) by omega]; exact hfar _
      have h3j : (M3 j).isSome = true := by rw [hM3, upd_ne _ _ (fun e => cast (hjb _) e), h2j]; rfl
      have h32 : M3 (b + 2) = some B2 := by rw [hM3, upd_ne _ _ (by omega)]; exact h22
      have h33 : M3 (b + 3) = some B3 := by rw [hM3, upd_ne _ _ (by omega)]; exact h23
      have h3q : M3 (b + 60) = some (.names oT) := by rw [hM3, upd_same]
      have h3k : ∀ u z, u ≠ j → M u = some z → M3 u = some z := fun u z hu hz => by rw [hM3]; exact (upd_ne _ _ (fun e => by subst e; rw [hM] at hz; cases hz)).trans (hk2 u z hu hz)
      have hW3 : WFm M3 := by rw [hM3]; exact mwf_some hW2 (fun i hi => by simp [O.ids] at hi)
      have kept3 : ∀ i, Rr.keep i → (M3 i).isSome = true := fun i hi => by rw [hM3]; exact live_upd i (kept2 i hi)
      obtain ⟨M4, hM4⟩ : ∃ m, m = jnM M3 j oE := ⟨_, rfl⟩
      have h4far : ∀ d, M4 (b + 300 + d) = none := fun d => by rw [hM4]; exact jnM_none (h3far d) h3j
      have h4j : M4 j = some (.names oE) := by rw [hM4]; exact jnM_j
      have h4q : M4 (b + 60) = some (.names oT) := by rw [hM4]; exact jn_keep1 (fun e => cast (hjb' _) e) h3q
      have h4k : ∀ u z, u ≠ j → M u = some z → M4 u = some (O.kill j z) := fun u z hu hz => by rw [hM4]; exact jn_keep1 hu (h3k u z hu hz)
      rw [← hM4] at hE2
      cases oT with
      | none =>
        skip
        rw [hM3] at hT2
        refine W.regionX tab_ok follows_mixed ⟨upd (upd (upd (upd (fun _ => .top) 2 (.ptr (b + 2) 0)) 3 (.ptr (b + 3) 0)) 8 nilN) 9 (.c (.bool okT)), upd M2 (b + 60) (some (.names none))⟩ ?_ ?_
        refine rx_field (base := b) tab_ok (by decide) (by decide +kernel) 2 rfl rfl (by simp only [exa, beq_self_eq_true, ByteArray.size, Nat.reduceAdd, Nat.reduceLeDiff, Nat.reduceEqDiff, Nat.reduceMul, Int.reduceToNat, reduceIte, Int.reduceLE, Int.reduceNeg, h22, h23, hB3]; rfl) rfl rfl (by decide +kernel) (by decide +kernel) ⟨_, by simp only [exec1, exa, beq_self_eq_true, ByteArray.size, Nat.reduceAdd, Nat.reduceLeDiff, Nat.reduceEqDiff, Nat.reduceMul, Int.reduceToNat, reduceIte, Int.reduceLE, Int.reduceNeg, h22, h23, hB3]; rfl, ?_⟩
        refine rx_runs (base := b) tab_ok (by decide) ?_
        refine first_exec 0 (by decide +kernel) ⟨_, by simp only [exec1, exa, beq_self_eq_true, ByteArray.size, Nat.reduceAdd, Nat.reduceLeDiff, Nat.reduceEqDiff, Nat.reduceMul, Int.reduceToNat, reduceIte, Int.reduceLE, Int.reduceNeg, h22, hB2]; rfl, ?_⟩
        refine runs_node [1, 3] (by decide +kernel) (by decide) ?_
        refine step_callE (D := []) rfl rfl rfl rfl rfl rfl rfl (fun u hu => by simp at hu) (by simp) (cvs_cons cv_refl cvs_nil) hcl ?_ ?_
        simp only [killL, upd_upd]
        refine first_exec 3 (by decide +kernel) ⟨_, by simp only [exec1, exa, beq_self_eq_true, ByteArray.size, Nat.reduceAdd, Nat.reduceLeDiff, Nat.reduceEqDiff, Nat.reduceMul, Int.reduceToNat, reduceIte, Int.reduceLE, Int.reduceNeg, h23, hB3, Nat.add_left_cancel_iff]; rfl, ?_⟩
        refine runs_node [4] (by decide +kernel) (by decide) ?_
        refine step_callE (D := [b + 60]) rfl rfl rfl rfl rfl rfl rfl (fun u hu => by simp at hu; subst hu; exact nkq) (by simp) (cvs_cons cv_refl (cvs_cons cv_refl cvs_nil)) hT2 ?_ trivial
        simp only [killL, upd_upd]
        refine first_exec 5 (by decide +kernel) ⟨_, by simp only [exec1, exa, beq_self_eq_true, ByteArray.size, Nat.reduceAdd, Nat.reduceLeDiff, Nat.reduceEqDiff, Nat.reduceMul, Int.reduceToNat, reduceIte, Int.reduceLE, Int.reduceNeg]; rfl, ?_⟩
        refine first_exec 6 (by decide +kernel) ⟨_, by simp only [exec1, exa, beq_self_eq_true, ByteArray.size, Nat.reduceAdd, Nat.reduceLeDiff, Nat.reduceEqDiff, Nat.reduceMul, Int.reduceToNat, reduceIte, Int.reduceLE, Int.reduceNeg, resN]; rfl, ?_⟩
        refine first_exec 7 (by decide +kernel) ⟨_, by simp only [exec1, exa, beq_self_eq_true, ByteArray.size, Nat.reduceAdd, Nat.reduceLeDiff, Nat.reduceEqDiff, Nat.reduceMul, Int.reduceToNat, reduceIte, Int.reduceLE, Int.reduceNeg, resN]; rfl, ?_⟩
        refine first_exec 8 (by decide +kernel) ⟨_, by simp only [exec1, exa, beq_self_eq_true, ByteArray.size, Nat.reduceAdd, Nat.reduceLeDiff, Nat.reduceEqDiff, Nat.reduceMul, Int.reduceToNat, reduceIte, Int.reduceLE, Int.reduceNeg]; rfl, ?_⟩
        refine first_exec 9 (by decide +kernel) ⟨_, by simp only [exec1, exa, beq_self_eq_true, ByteArray.size, Nat.reduceAdd, Nat.reduceLeDiff, Nat.reduceEqDiff, Nat.reduceMul, Int.reduceToNat, reduceIte, Int.reduceLE, Int.reduceNeg]; rfl, ?_⟩
        refine runsw_end (by decide +kernel) ?_
        refine le_mk ?sle ?mle ?swf ?mwf (fun i hi => live_upd i (kept2 i hi)) (by rfl)
        case swf => repeat (first | exact swf_top _ | refine swf_upd ?_ (by simp [A.ids, upd_app, h22, h23, Nat.add_left_cancel_iff]))
        case mwf => exact mwf_some hW2 (fun i hi => by simp [O.ids] at hi)
        case sle => repeat (first | exact sle_top _ | exact sle_refl _ | refine sle_upd ?_ (by first | rfl | (simp only [upd_app, killS_app, A.kill, entry_zero, entry_succ, Nat.reduceEqDiff, reduceIte, Nat.add_left_cancel_iff] <;> rfl)))
        case mle => exact mle_refl' rfl
        refine step_exec ⟨_, by simp only [exec1, exa, beq_self_eq_true, ByteArray.size, Nat.reduceAdd, Nat.reduceLeDiff, Nat.reduceEqDiff, Nat.reduceMul, Int.reduceToNat, reduceIte, Int.reduceLE, Int.reduceNeg, h23, hB3]; rfl, ?_⟩ trivial
        refine runs_node [1] (by decide +kernel) (by decide) ?_
        refine step_callE (D := []) rfl rfl rfl rfl rfl rfl rfl (fun u hu => by simp at hu) (by simp) (cvs_cons cv_refl cvs_nil) hcl ?_ trivial
        simp only [killL, upd_upd]
        refine runs_node [4] (by decide +kernel) (by decide) ?_
        refine step_callE (D := [b + 60]) rfl rfl rfl rfl rfl rfl rfl (fun u hu => by simp at hu; subst hu; exact nkq) (by simp) (cvs_cons cv_refl (cvs_cons cv_refl cvs_nil)) hT2 ?_ trivial
        simp only [killL, upd_upd]
        refine first_exec 5 (by decide +kernel) ⟨_, by simp only [exec1, exa, beq_self_eq_true, ByteArray.size, Nat.reduceAdd, Nat.reduceLeDiff, Nat.reduceEqDiff, Nat.reduceMul, Int.reduceToNat, reduceIte, Int.reduceLE, Int.reduceNeg]; rfl, ?_⟩
        refine first_exec 6 (by decide +kernel) ⟨_, by simp only [exec1, exa, beq_self_eq_true, ByteArray.size, Nat.reduceAdd, Nat.reduceLeDiff, Nat.reduceEqDiff, Nat.reduceMul, Int.reduceToNat, reduceIte, Int.reduceLE, Int.reduceNeg, resN]; rfl, ?_⟩
        refine first_exec 7 (by decide +kernel) ⟨_, by simp only [exec1, exa, beq_self_eq_true, ByteArray.size, Nat.reduceAdd, Nat.reduceLeDiff, Nat.reduceEqDiff, Nat.reduceMul, Int.reduceToNat, reduceIte, Int.reduceLE, Int.reduceNeg, resN]; rfl, ?_⟩
        refine first_exec 8 (by decide +kernel) ⟨_, by simp only [exec1, exa, beq_self_eq_true, ByteArray.size, Nat.reduceAdd, Nat.reduceLeDiff, Nat.reduceEqDiff, Nat.reduceMul, Int.reduceToNat, reduceIte, Int.reduceLE, Int.reduceNeg]; rfl, ?_⟩
        refine first_exec 9 (by decide +kernel) ⟨_, by simp only [exec1, exa, beq_self_eq_true, ByteArray.size, Nat.reduceAdd, Nat.reduceLeDiff, Nat.reduceEqDiff, Nat.reduceMul, Int.reduceToNat, reduceIte, Int.reduceLE, Int.reduceNeg]; rfl, ?_⟩
        refine runsw_end (by decide +kernel) ?_
        refine le_mk ?sle ?mle ?swf ?mwf (fun i hi => live_upd i (kept2 i hi)) (by rfl)
        case swf => repeat (first | exact swf_top _ | refine swf_upd ?_ (by simp [A.ids, upd_app, h22, h23, Nat.add_left_cancel_iff]))
        case mwf => exact mwf_some hW2 (fun i hi => by simp [O.ids] at hi)
        case sle => repeat (first | exact sle_top _ | exact sle_refl _ | refine sle_upd ?_ (by first | rfl | (simp only [upd_app, killS_app, A.kill, entry_zero, entry_succ, Nat.reduceEqDiff, reduceIte, Nat.add_left_cancel_iff] <;> rfl)))
        case mle => exact mle_refl' rfl
        intro st' hle
        refine W.weaken hle ?_
        clear hle st'
        rw [← hM3]
        (repeat (first | refine W.seq ?_ | refine W.block ?_))
        refine W.regionK tab_ok b (by decide) ?_
        refine runk_split 3 (by simp only [exa, beq_self_eq_true, ByteArray.size, Nat.reduceAdd, Nat.reduceLeDiff, Nat.reduceEqDiff, Nat.reduceMul, Int.reduceToNat, reduceIte, Int.reduceLE, Int.reduceNeg, h32, h33, hB2, hB3]; rfl) ?_
        refine runk_callE (D := [j]) rfl rfl rfl rfl rfl (fun u hu => by simp at hu; subst hu; exact nk) (by simp) (cvs_cons cv_refl (cvs_cons cv_refl cvs_nil)) hE2 ?_
        simp only [killL, putS, upd_upd]
        cases oE with
        | none =>
          skip
          refine runk_exec (by simp only [exa, beq_self_eq_true, ByteArray.size, Nat.reduceAdd, Nat.reduceLeDiff, Nat.reduceEqDiff, Nat.reduceMul, Int.reduceToNat, reduceIte, Int.reduceLE, Int.reduceNeg, resN]; rfl) ?_
          (repeat (first | refine W.seq ?_ | refine W.block ?_))
          refine W.regionK tab_ok b (by decide) ?_
          refine runk_split 2 (by simp only [exa, beq_self_eq_true, ByteArray.size, Nat.reduceAdd, Nat.reduceLeDiff, Nat.reduceEqDiff, Nat.reduceMul, Int.reduceToNat, reduceIte, Int.reduceLE, Int.reduceNeg, hjb, hjb', Nat.add_left_cancel_iff]; rfl) ?_
          refine runk_callE (D := []) rfl rfl rfl rfl rfl (fun j hj => by simp at hj) (by simp) (cvs_cons cv_refl (cvs_cons cv_refl cvs_nil)) (meet_nn M4 (b + 300) h4far) ?_
          simp only [killL, putS, upd_upd]
          have hand : ∀ x : Bool, (false && x) = false := fun x => rfl
          cases okT
          refine runk_exec (by simp only [exa, beq_self_eq_true, ByteArray.size, Nat.reduceAdd, Nat.reduceLeDiff, Nat.reduceEqDiff, Nat.reduceMul, Int.reduceToNat, reduceIte, Int.reduceLE, Int.reduceNeg]; rfl) ?_
          refine W.ret ⟨.inr rfl, by rfl, j, none, ?res, ?hi, ?hx, ?hij, ?keep⟩
          case res => simp only [Try.f18, resE, resOne, fin, toT, resN, exa, beq_self_eq_true, ByteArray.size, Nat.reduceAdd, Nat.reduceLeDiff, Nat.reduceEqDiff, Nat.reduceMul, Int.reduceToNat, reduceIte, Int.reduceLE, Int.reduceNeg, meetO] <;> rfl
          case hi => (exact h4j)
          case hx => exact .inl rfl
          case hij => first | exact .inl rfl | exact .inr (hM _)
          case keep => exact fun u z hu hz => .inr (by first | exact (h4k u z hu hz) | exact ((upd_ne _ _ (fun e => by subst e; rw [hM] at hz; cases hz)).trans (h4k u z hu hz)))
          refine runk_exec (by simp only [exa, beq_self_eq_true, ByteArray.size, Nat.reduceAdd, Nat.reduceLeDiff, Nat.reduceEqDiff, Nat.reduceMul, Int.reduceToNat, reduceIte, Int.reduceLE, Int.reduceNeg]; rfl) ?_
          refine W.ret ⟨.inr rfl, by rfl, j, none, ?res, ?hi, ?hx, ?hij, ?keep⟩
          case res => simp only [Try.f18, resE, resOne, fin, toT, resN, exa, beq_self_eq_true, ByteArray.size, Nat.reduceAdd, Nat.reduceLeDiff, Nat.reduceEqDiff, Nat.reduceMul, Int.reduceToNat, reduceIte, Int.reduceLE, Int.reduceNeg, meetO] <;> rfl
          case hi => (exact h4j)
          case hx => exact .inl rfl
          case hij => exact .inl rfl
          case keep => exact fun u z hu hz => .inr (h4k u z hu hz)
        | some LE =>
          skip
          refine runk_exec (by simp only [exa, beq_self_eq_true, ByteArray.size, Nat.reduceAdd, Nat.reduceLeDiff, Nat.reduceEqDiff, Nat.reduceMul, Int.reduceToNat, reduceIte, Int.reduceLE, Int.reduceNeg, resN]; rfl) ?_
          (repeat (first | refine W.seq ?_ | refine W.block ?_))
          refine W.regionK tab_ok b (by decide) ?_
          refine runk_split 2 (by simp only [exa, beq_self_eq_true, ByteArray.size, Nat.reduceAdd, Nat.reduceLeDiff, Nat.reduceEqDiff, Nat.reduceMul, Int.reduceToNat, reduceIte, Int.reduceLE, Int.reduceNeg, hjb, hjb', Nat.add_left_cancel_iff]; rfl) ?_
          refine runk_callE (D := []) rfl rfl rfl rfl rfl (fun j hj => by simp at hj) (by simp) (cvs_cons cv_refl (cvs_cons cv_refl cvs_nil)) (meet_nj j M4 (b + 300) h4far h4j) ?_
          simp only [killL, putS, upd_upd]
          have hand : ∀ x : Bool, (false && x) = false := fun x => rfl
          cases okT
          refine runk_exec (by simp only [exa, beq_self_eq_true, ByteArray.size, Nat.reduceAdd, Nat.reduceLeDiff, Nat.reduceEqDiff, Nat.reduceMul, Int.reduceToNat, reduceIte, Int.reduceLE, Int.reduceNeg]; rfl) ?_
          refine W.ret ⟨.inr rfl, by rfl, j, (some LE), ?res, ?hi, ?hx, ?hij, ?keep⟩
          case res => simp only [Try.f18, resE, resOne, fin, toT, resN, exa, beq_self_eq_true, ByteArray.size, Nat.reduceAdd, Nat.reduceLeDiff, Nat.reduceEqDiff, Nat.reduceMul, Int.reduceToNat, reduceIte, Int.reduceLE, Int.reduceNeg, meetO] <;> rfl
          case hi => (exact h4j)
          case hx => exact .inl rfl
          case hij => first | exact .inl rfl | exact .inr (hM _)
          case keep => exact fun u z hu hz => .inr (by first | exact (h4k u z hu hz) | exact ((upd_ne _ _ (fun e => by subst e; rw [hM] at hz; cases hz)).trans (h4k u z hu hz)))
          refine runk_exec (by simp only [exa, beq_self_eq_true, ByteArray.size, Nat.reduceAdd, Nat.reduceLeDiff, Nat.reduceEqDiff, Nat.reduceMul, Int.reduceToNat, reduceIte, Int.reduceLE, Int.reduceNeg]; rfl) ?_
          refine W.ret ⟨.inr rfl, by rfl, j, (some LE), ?res, ?hi, ?hx, ?hij, ?keep⟩
          case res => simp only [Try.f18, resE, resOne, fin, toT, resN, exa, beq_self_eq_true, ByteArray.size, Nat.reduceAdd, Nat.reduceLeDiff, Nat.reduceEqDiff, Nat.reduceMul, Int.reduceToNat, reduceIte, Int.reduceLE, Int.reduceNeg, meetO] <;> rfl
          case hi => (exact h4j)
          case hx => exact .inl rfl
          case hij => exact .inl rfl
          case keep => exact fun u z hu hz => .inr (h4k u z hu hz)
      | some LT =>
        skip
        rw [hM3] at hT2
        refine W.regionX tab_ok follows_mixed ⟨upd (upd (upd (upd (fun _ => .top) 2 (.ptr (b + 2) 0)) 3 (.ptr (b + 3) 0)) 8 (.map (b + 60))) 9 (.c (.bool okT)), upd M2 (b + 60) (some (.names (some LT)))⟩ ?_ ?_
        refine rx_field (base := b) tab_ok (by decide) (by decide +kernel) 2 rfl rfl (by simp only [exa, beq_self_eq_true, ByteArray.size, Nat.reduceAdd, Nat.reduceLeDiff, Nat.reduceEqDiff, Nat.reduceMul, Int.reduceToNat, reduceIte, Int.reduceLE, Int.reduceNeg, h22, h23, hB3]; rfl) rfl rfl (by decide +kernel) (by decide +kernel) ⟨_, by simp only [exec1, exa, beq_self_eq_true, ByteArray.size, Nat.reduceAdd, Nat.reduceLeDiff, Nat.reduceEqDiff, Nat.reduceMul, Int.reduceToNat, reduceIte, Int.reduceLE, Int.reduceNeg, h22, h23, hB3]; rfl, ?_⟩
        refine rx_runs (base := b) tab_ok (by decide) ?_
        refine first_exec 0 (by decide +kernel) ⟨_, by simp only [exec1, exa, beq_self_eq_true, ByteArray.size, Nat.reduceAdd, Nat.reduceLeDiff, Nat.reduceEqDiff, Nat.reduceMul, Int.reduceToNat, reduceIte, Int.reduceLE, Int.reduceNeg, h22, hB2]; rfl, ?_⟩
        refine runs_node [1, 3] (by decide +kernel) (by decide) ?_
        refine step_callE (D := []) rfl rfl rfl rfl rfl rfl rfl (fun u hu => by simp at hu) (by simp) (cvs_cons cv_refl cvs_nil) hcl ?_ ?_
        simp only [killL, upd_upd]
        refine first_exec 3 (by decide +kernel) ⟨_, by simp only [exec1, exa, beq_self_eq_true, ByteArray.size, Nat.reduceAdd, Nat.reduceLeDiff, Nat.reduceEqDiff, Nat.reduceMul, Int.reduceToNat, reduceIte, Int.reduceLE, Int.reduceNeg, h23, hB3, Nat.add_left_cancel_iff]; rfl, ?_⟩
        refine runs_node [4] (by decide +kernel) (by decide) ?_
        refine step_callE (D := [b + 60]) rfl rfl rfl rfl rfl rfl rfl (fun u hu => by simp at hu; subst hu; exact nkq) (by simp) (cvs_cons cv_refl (cvs_cons cv_refl cvs_nil)) hT2 ?_ trivial
        simp only [killL, upd_upd]
        refine first_exec 5 (by decide +kernel) ⟨_, by simp only [exec1, exa, beq_self_eq_true, ByteArray.size, Nat.reduceAdd, Nat.reduceLeDiff, Nat.reduceEqDiff, Nat.reduceMul, Int.reduceToNat, reduceIte, Int.reduceLE, Int.reduceNeg]; rfl, ?_⟩
        refine first_exec 6 (by decide +kernel) ⟨_, by simp only [exec1, exa, beq_self_eq_true, ByteArray.size, Nat.reduceAdd, Nat.reduceLeDiff, Nat.reduceEqDiff, Nat.reduceMul, Int.reduceToNat, reduceIte, Int.reduceLE, Int.reduceNeg, resN]; rfl, ?_⟩
        refine first_exec 7 (by decide +kernel) ⟨_, by simp only [exec1, exa, beq_self_eq_true, ByteArray.size, Nat.reduceAdd, Nat.reduceLeDiff, Nat.reduceEqDiff, Nat.reduceMul, Int.reduceToNat, reduceIte, Int.reduceLE, Int.reduceNeg, resN]; rfl, ?_⟩
        refine first_exec 8 (by decide +kernel) ⟨_, by simp only [exec1, exa, beq_self_eq_true, ByteArray.size, Nat.reduceAdd, Nat.reduceLeDiff, Nat.reduceEqDiff, Nat.reduceMul, Int.reduceToNat, reduceIte, Int.reduceLE, Int.reduceNeg]; rfl, ?_⟩
        refine first_exec 9 (by decide +kernel) ⟨_, by simp only [exec1, exa, beq_self_eq_true, ByteArray.size, Nat.reduceAdd, Nat.reduceLeDiff, Nat.reduceEqDiff, Nat.reduceMul, Int.reduceToNat, reduceIte, Int.reduceLE, Int.reduceNeg]; rfl, ?_⟩
        refine runsw_end (by decide +kernel) ?_
        refine le_mk ?sle ?mle ?swf ?mwf (fun i hi => live_upd i (kept2 i hi)) (by rfl)
        case swf => repeat (first | exact swf_top _ | refine swf_upd ?_ (by simp [A.ids, upd_app, h22, h23, Nat.add_left_cancel_iff]))
        case mwf => exact mwf_some hW2 (fun i hi => by simp [O.ids] at hi)
        case sle => repeat (first | exact sle_top _ | exact sle_refl _ | refine sle_upd ?_ (by first | rfl | (simp only [upd_app, killS_app, A.kill, entry_zero, entry_succ, Nat.reduceEqDiff, reduceIte, Nat.add_left_cancel_iff] <;> rfl)))
        case mle => exact mle_refl' rfl
        refine step_exec ⟨_, by simp only [exec1, exa, beq_self_eq_true, ByteArray.size, Nat.reduceAdd, Nat.reduceLeDiff, Nat.reduceEqDiff, Nat.reduceMul, Int.reduceToNat, reduceIte, Int.reduceLE, Int.reduceNeg, h23, hB3]; rfl, ?_⟩ trivial
        refine runs_node [1] (by decide +kernel) (by decide) ?_
        refine step_callE (D := []) rfl rfl rfl rfl rfl rfl rfl (fun u hu => by simp at hu) (by simp) (cvs_cons cv_refl cvs_nil) hcl ?_ trivial
        simp only [killL, upd_upd]
        refine runs_node [4] (by decide +kernel) (by decide) ?_
        refine step_callE (D := [b + 60]) rfl rfl rfl rfl rfl rfl rfl (fun u hu => by simp at hu; subst hu; exact nkq) (by simp) (cvs_cons cv_refl (cvs_cons cv_refl cvs_nil)) hT2 ?_ trivial
        simp only [killL, upd_upd]
        refine first_exec 5 (by decide +kernel) ⟨_, by simp only [exec1, exa, beq_self_eq_true, ByteArray.size, Nat.reduceAdd, Nat.reduceLeDiff, Nat.reduceEqDiff, Nat.reduceMul, Int.reduceToNat, reduceIte, Int.reduceLE, Int.reduceNeg]; rfl, ?_⟩
        refine first_exec 6 (by decide +kernel) ⟨_, by simp only [exec1, exa, beq_self_eq_true, ByteArray.size, Nat.reduceAdd, Nat.reduceLeDiff, Nat.reduceEqDiff, Nat.reduceMul, Int.reduceToNat, reduceIte, Int.reduceLE, Int.reduceNeg, resN]; rfl, ?_⟩
        refine first_exec 7 (by decide +kernel) ⟨_, by simp only [exec1, exa, beq_self_eq_true, ByteArray.size, Nat.reduceAdd, Nat.reduceLeDiff, Nat.reduceEqDiff, Nat.reduceMul, Int.reduceToNat, reduceIte, Int.reduceLE, Int.reduceNeg, resN]; rfl, ?_⟩
        refine first_exec 8 (by decide +kernel) ⟨_, by simp only [exec1, exa, beq_self_eq_true, ByteArray.size, Nat.reduceAdd, Nat.reduceLeDiff, Nat.reduceEqDiff, Nat.reduceMul, Int.reduceToNat, reduceIte, Int.reduceLE, Int.reduceNeg]; rfl, ?_⟩
        refine first_exec 9 (by decide +kernel) ⟨_, by simp only [exec1, exa, beq_self_eq_true, ByteArray.size, Nat.reduceAdd, Nat.reduceLeDiff, Nat.reduceEqDiff, Nat.reduceMul, Int.reduceToNat, reduceIte, Int.reduceLE, Int.reduceNeg]; rfl, ?_⟩
        refine runsw_end (by decide +kernel) ?_
        refine le_mk ?sle ?mle ?swf ?mwf (fun i hi => live_upd i (kept2 i hi)) (by rfl)
        case swf => repeat (first | exact swf_top _ | refine swf_upd ?_ (by simp [A.ids, upd_app, h22, h23, Nat.add_left_cancel_iff]))
        case mwf => exact mwf_some hW2 (fun i hi => by simp [O.ids] at hi)
        case sle => repeat (first | exact sle_top _ | exact sle_refl _ | refine sle_upd ?_ (by first | rfl | (simp only [upd_app, killS_app, A.kill, entry_zero, entry_succ, Nat.reduceEqDiff, reduceIte, Nat.add_left_cancel_iff] <;> rfl)))
        case mle => exact mle_refl' rfl
        intro st' hle
        refine W.weaken hle ?_
        clear hle st'
        rw [← hM3]
        (repeat (first | refine W.seq ?_ | refine W.block ?_))
        refine W.regionK tab_ok b (by decide) ?_
        refine runk_split 3 (by simp only [exa, beq_self_eq_true, ByteArray.size, Nat.reduceAdd, Nat.reduceLeDiff, Nat.reduceEqDiff, Nat.reduceMul, Int.reduceToNat, reduceIte, Int.reduceLE, Int.reduceNeg, h32, h33, hB2, hB3]; rfl) ?_
        refine runk_callE (D := [j]) rfl rfl rfl rfl rfl (fun u hu => by simp at hu; subst hu; exact nk) (by simp) (cvs_cons cv_refl (cvs_cons cv_refl cvs_nil)) hE2 ?_
        simp only [killL, putS, upd_upd]
        cases oE with
        | none =>
          skip
          refine runk_exec (by simp only [exa, beq_self_eq_true, ByteArray.size, Nat.reduceAdd, Nat.reduceLeDiff, Nat.reduceEqDiff, Nat.reduceMul, Int.reduceToNat, reduceIte, Int.reduceLE, Int.reduceNeg, resN]; rfl) ?_
          (repeat (first | refine W.seq ?_ | refine W.block ?_))
          refine W.regionK tab_ok b (by decide) ?_
          refine runk_split 2 (by simp only [exa, beq_self_eq_true, ByteArray.size, Nat.reduceAdd, Nat.reduceLeDiff, Nat.reduceEqDiff, Nat.reduceMul, Int.reduceToNat, reduceIte, Int.reduceLE, Int.reduceNeg, hjb, hjb', Nat.add_left_cancel_iff]; rfl) ?_
          refine runk_callE (D := []) rfl rfl rfl rfl rfl (fun j hj => by simp at hj) (by simp) (cvs_cons cv_refl (cvs_cons cv_refl cvs_nil)) (meet_qn (b + 60) M4 (b + 300) h4far h4q) ?_
          simp only [killL, putS, upd_upd]
          have hand : ∀ x : Bool, (false && x) = false := fun x => rfl
          cases okT
          refine runk_exec (by simp only [exa, beq_self_eq_true, ByteArray.size, Nat.reduceAdd, Nat.reduceLeDiff, Nat.reduceEqDiff, Nat.reduceMul, Int.reduceToNat, reduceIte, Int.reduceLE, Int.reduceNeg]; rfl) ?_
          refine W.ret ⟨.inr rfl, by rfl, (b + 60), (some LT), ?res, ?hi, ?hx, ?hij, ?keep⟩
          case res => simp only [Try.f18, resE, resOne, fin, toT, resN, exa, beq_self_eq_true, ByteArray.size, Nat.reduceAdd, Nat.reduceLeDiff, Nat.reduceEqDiff, Nat.reduceMul, Int.reduceToNat, reduceIte, Int.reduceLE, Int.reduceNeg, meetO] <;> rfl
          case hi => (exact h4q)
          case hx => exact .inl rfl
          case hij => first | exact .inl rfl | exact .inr (hM _)
          case keep => exact fun u z hu hz => .inr (by first | exact (h4k u z hu hz) | exact ((upd_ne _ _ (fun e => by subst e; rw [hM] at hz; cases hz)).trans (h4k u z hu hz)))
          refine runk_exec (by simp only [exa, beq_self_eq_true, ByteArray.size, Nat.reduceAdd, Nat.reduceLeDiff, Nat.reduceEqDiff, Nat.reduceMul, Int.reduceToNat, reduceIte, Int.reduceLE, Int.reduceNeg]; rfl) ?_
          refine W.ret ⟨.inr rfl, by rfl, (b + 60), (some LT), ?res, ?hi, ?hx, ?hij, ?keep⟩
          case res => simp only [Try.f18, resE, resOne, fin, toT, resN, exa, beq_self_eq_true, ByteArray.size, Nat.reduceAdd, Nat.reduceLeDiff, Nat.reduceEqDiff, Nat.reduceMul, Int.reduceToNat, reduceIte, Int.reduceLE, Int.reduceNeg, meetO] <;> rfl
          case hi => (exact h4q)
          case hx => exact .inl rfl
          case hij => exact .inr (hM _)
          case keep => exact fun u z hu hz => .inr (h4k u z hu hz)
        | some LE =>
          have hLT : LT.length ≤ 1000000000000 := by have := hlen LT (by rw [hrT]); omega
          refine runk_exec (by simp only [exa, beq_self_eq_true, ByteArray.size, Nat.reduceAdd, Nat.reduceLeDiff, Nat.reduceEqDiff, Nat.reduceMul, Int.reduceToNat, reduceIte, Int.reduceLE, Int.reduceNeg, resN]; rfl) ?_
          (repeat (first | refine W.seq ?_ | refine W.block ?_))
          refine W.regionK tab_ok b (by decide) ?_
          refine runk_split 2 (by simp only [exa, beq_self_eq_true, ByteArray.size, Nat.reduceAdd, Nat.reduceLeDiff, Nat.reduceEqDiff, Nat.reduceMul, Int.reduceToNat, reduceIte, Int.reduceLE, Int.reduceNeg, hjb, hjb', Nat.add_left_cancel_iff]; rfl) ?_
          refine runk_callE (D := []) rfl rfl rfl rfl rfl (fun j hj => by simp at hj) (by simp) (cvs_cons cv_refl (cvs_cons cv_refl cvs_nil)) (meet_qj (b + 60) j (fun e => cast (hjb' _) e) LT LE hLT M4 (b + 300) h4far h4q h4j) ?_
          simp only [killL, putS, upd_upd]
          have hand : ∀ x : Bool, (false && x) = false := fun x => rfl
          cases okT
          refine runk_exec (by simp only [exa, beq_self_eq_true, ByteArray.size, Nat.reduceAdd, Nat.reduceLeDiff, Nat.reduceEqDiff, Nat.reduceMul, Int.reduceToNat, reduceIte, Int.reduceLE, Int.reduceNeg]; rfl) ?_
          refine W.ret ⟨.inr rfl, by rfl, (b + 60), (some (LT.filter fun s => LE.contains s)), ?res, ?hi, ?hx, ?hij, ?keep⟩
          case res => simp only [Try.f18, resE, resOne, fin, toT, resN, exa, beq_self_eq_true, ByteArray.size, Nat.reduceAdd, Nat.reduceLeDiff, Nat.reduceEqDiff, Nat.reduceMul, Int.reduceToNat, reduceIte, Int.reduceLE, Int.reduceNeg, meetO] <;> rfl
          case hi => (exact upd_same ..)
          case hx => exact .inl rfl
          case hij => first | exact .inl rfl | exact .inr (hM _)
          case keep => exact fun u z hu hz => .inr (by first | exact (h4k u z hu hz) | exact ((upd_ne _ _ (fun e => by subst e; rw [hM] at hz; cases hz)).trans (h4k u z hu hz)))
          refine runk_exec (by simp only [exa, beq_self_eq_true, ByteArray.size, Nat.reduceAdd, Nat.reduceLeDiff, Nat.reduceEqDiff, Nat.reduceMul, Int.reduceToNat, reduceIte, Int.reduceLE, Int.reduceNeg]; rfl) ?_
          refine W.ret ⟨.inr rfl, by rfl, (b + 60), (some (LT.filter fun s => LE.contains s)), ?res, ?hi, ?hx, ?hij, ?keep⟩
          case res => simp only [Try.f18, resE, resOne, fin, toT, resN, exa, beq_self_eq_true, ByteArray.size, Nat.reduceAdd, Nat.reduceLeDiff, Nat.reduceEqDiff, Nat.reduceMul, Int.reduceToNat, reduceIte, Int.reduceLE, Int.reduceNeg, meetO] <;> rfl
          case hi => (exact upd_same ..)
          case hx => exact .inl rfl
          case hij => exact .inr (hM _)
          case keep => exact fun u z hu hz => .inr ((upd_ne _ _ (fun e => by subst e; rw [hM] at hz; cases hz)).trans (h4k u z hu hz))
    have k3' : decide (k = 3) = false := by simp [k3]
    rw [if_neg k3]
    refine W.cond rfl (fun h => absurd h (by simp [k3])) (fun _ => ?_)
    repeat (first | refine W.seq ?_ | refine W.block ?_ | refine W.skip ?_ | refine W.exit ?_ | refine W.region tab_ok b (by decide) (exec_run (by simp only [exa, beq_self_eq_true, ByteArray.size, Nat.reduceAdd, Nat.reduceLeDiff, Nat.reduceEqDiff, Nat.reduceMul, Int.reduceToNat, reduceIte, Int.reduceLE, Int.reduceNeg, h22, h23, hB3]; rfl)) ?_)
    by_cases k4 : k = 4
    · subst k4
      rw [if_pos rfl]
      refine W.cond rfl (fun _ => ?_) (fun h => absurd h (by simp))
      (repeat (first | refine W.seq ?_ | refine W.block ?_))
      have hq0 : M2 (b + 60) = none := by rw [show b + 60 = b + 20 + 40 by omega]; exact hfar 40
      have hcl := cloneN_ok (M := M2) (j := j) (q := b + 60) (o := some L) h2j hq0
      obtain ⟨oT, okT, hrT⟩ : ∃ o ok, runB L th = (o, ok) := ⟨_, _, rfl⟩
      have hT2 := hT L (b + 60) (upd M2 (b + 60) (some (.names (some L)))) (b + 80) (fun d => by rw [upd_ne _ _ (by omega), show b + 80 + d = b + 20 + (60 + d) by omega]; exact hfar _) (upd_same ..) (by omega)
      rw [hrT] at hT2
      have hjn : jnM (upd M2 (b + 60) (some (.names (some L)))) (b + 60) oT = upd M2 (b + 60) (some (.names oT)) := kill_own hW2 hq0
      simp only [hjn] at hT2
      rw [hrT]
      have nkq : ¬ Rr.keep (b + 60) := by rw [hkeep]; exact fun h => by have h1 := h.1; rw [hM] at h1; cases h1
      cases oT with
      | none =>
        skip
        refine W.regionX tab_ok follows_mixed ⟨upd (upd (upd (upd (fun _ => .top) 2 (.ptr (b + 2) 0)) 3 (.ptr (b + 3) 0)) 12 nilN) 13 (.c (.bool okT)), upd M2 (b + 60) (some (.names none))⟩ ?_ ?_
        refine rx_field (base := b) tab_ok (by decide) (by decide +kernel) 2 rfl rfl (by simp only [exa, beq_self_eq_true, ByteArray.size, Nat.reduceAdd, Nat.reduceLeDiff, Nat.reduceEqDiff, Nat.reduceMul, Int.reduceToNat, reduceIte, Int.reduceLE, Int.reduceNeg, h22, h23, hB3]; rfl) rfl rfl (by decide +kernel) (by decide +kernel) ⟨_, by simp only [exec1, exa, beq_self_eq_true, ByteArray.size, Nat.reduceAdd, Nat.reduceLeDiff, Nat.reduceEqDiff, Nat.reduceMul, Int.reduceToNat, reduceIte, Int.reduceLE, Int.reduceNeg, h22, h23, hB3]; rfl, ?_⟩
        refine rx_runs (base := b) tab_ok (by decide) ?_
        refine first_exec 0 (by decide +kernel) ⟨_, by simp only [exec1, exa, beq_self_eq_true, ByteArray.size, Nat.reduceAdd, Nat.reduceLeDiff, Nat.reduceEqDiff, Nat.reduceMul, Int.reduceToNat, reduceIte, Int.reduceLE, Int.reduceNeg, h22, hB2]; rfl, ?_⟩
        refine runs_node [1, 3] (by decide +kernel) (by decide) ?_
        refine step_callE (D := []) rfl rfl rfl rfl rfl rfl rfl (fun u hu => by simp at hu) (by simp) (cvs_cons cv_refl cvs_nil) hcl ?_ ?_
        simp only [killL, upd_upd]
        refine first_exec 3 (by decide +kernel) ⟨_, by simp only [exec1, exa, beq_self_eq_true, ByteArray.size, Nat.reduceAdd, Nat.reduceLeDiff, Nat.reduceEqDiff, Nat.reduceMul, Int.reduceToNat, reduceIte, Int.reduceLE, Int.reduceNeg, h23, hB3, Nat.add_left_cancel_iff]; rfl, ?_⟩
        refine runs_node [4] (by decide +kernel) (by decide) ?_
        refine step_callE (D := [b + 60]) rfl rfl rfl rfl rfl rfl rfl (fun u hu => by simp at hu; subst hu; exact nkq) (by simp) (cvs_cons cv_refl (cvs_cons cv_refl cvs_nil)) hT2 ?_ trivial
        simp only [killL, upd_upd]
        refine first_exec 5 (by decide +kernel) ⟨_, by simp only [exec1, exa, beq_self_eq_true, ByteArray.size, Nat.reduceAdd, Nat.reduceLeDiff, Nat.reduceEqDiff, Nat.reduceMul, Int.reduceToNat, reduceIte, Int.reduceLE, Int.reduceNeg]; rfl, ?_⟩
        refine first_exec 6 (by decide +kernel) ⟨_, by simp only [exec1, exa, beq_self_eq_true, ByteArray.size, Nat.reduceAdd, Nat.reduceLeDiff, Nat.reduceEqDiff, Nat.reduceMul, Int.reduceToNat, reduceIte, Int.reduceLE, Int.reduceNeg, resN]; rfl, ?_⟩
        refine first_exec 7 (by decide +kernel) ⟨_, by simp only [exec1, exa, beq_self_eq_true, ByteArray.size, Nat.reduceAdd, Nat.reduceLeDiff, Nat.reduceEqDiff, Nat.reduceMul, Int.reduceToNat, reduceIte, Int.reduceLE, Int.reduceNeg, resN]; rfl, ?_⟩
        refine first_exec 8 (by decide +kernel) ⟨_, by simp only [exec1, exa, beq_self_eq_true, ByteArray.size, Nat.reduceAdd, Nat.reduceLeDiff, Nat.reduceEqDiff, Nat.reduceMul, Int.reduceToNat, reduceIte, Int.reduceLE, Int.reduceNeg]; rfl, ?_⟩
        refine first_exec 9 (by decide +kernel) ⟨_, by simp only [exec1, exa, beq_self_eq_true, ByteArray.size, Nat.reduceAdd, Nat.reduceLeDiff, Nat.reduceEqDiff, Nat.reduceMul, Int.reduceToNat, reduceIte, Int.reduceLE, Int.reduceNeg]; rfl, ?_⟩
        refine runsw_end (by decide +kernel) ?_
        refine le_mk ?sle ?mle ?swf ?mwf (fun i hi => live_upd i (kept2 i hi)) (by rfl)
        case swf => repeat (first | exact swf_top _ | refine swf_upd ?_ (by simp [A.ids, upd_app, h22, h23, Nat.add_left_cancel_iff]))
        case mwf => exact mwf_some hW2 (fun i hi => by simp [O.ids] at hi)
        case sle => repeat (first | exact sle_top _ | exact sle_refl _ | refine sle_upd ?_ (by first | rfl | (simp only [upd_app, killS_app, A.kill, entry_zero, entry_succ, Nat.reduceEqDiff, reduceIte, Nat.add_left_cancel_iff] <;> rfl)))
        case mle => exact mle_refl' rfl
        refine step_exec ⟨_, by simp only [exec1, exa, beq_self_eq_true, ByteArray.size, Nat.reduceAdd, Nat.reduceLeDiff, Nat.reduceEqDiff, Nat.reduceMul, Int.reduceToNat, reduceIte, Int.reduceLE, Int.reduceNeg, h23, hB3]; rfl, ?_⟩ trivial
        refine runs_node [1] (by decide +kernel) (by decide) ?_
        refine step_callE (D := []) rfl rfl rfl rfl rfl rfl rfl (fun u hu => by simp at hu) (by simp) (cvs_cons cv_refl cvs_nil) hcl ?_ trivial
        simp only [killL, upd_upd]
        refine runs_node [4] (by decide +kernel) (by decide) ?_
        refine step_callE (D := [b + 60]) rfl rfl rfl rfl rfl rfl rfl (fun u hu => by simp at hu; subst hu; exact nkq) (by simp) (cvs_cons cv_refl (cvs_cons cv_refl cvs_nil)) hT2 ?_ trivial
        simp only [killL, upd_upd]
        refine first_exec 5 (by decide +kernel) ⟨_, by simp only [exec1, exa, beq_self_eq_true, ByteArray.size, Nat.reduceAdd, Nat.reduceLeDiff, Nat.reduceEqDiff, Nat.reduceMul, Int.reduceToNat, reduceIte, Int.reduceLE, Int.reduceNeg]; rfl, ?_⟩
        refine first_exec 6 (by decide +kernel) ⟨_, by simp only [exec1, exa, beq_self_eq_true, ByteArray.size, Nat.reduceAdd, Nat.reduceLeDiff, Nat.reduceEqDiff, Nat.reduceMul, Int.reduceToNat, reduceIte, Int.reduceLE, Int.reduceNeg, resN]; rfl, ?_⟩
        refine first_exec 7 (by decide +kernel) ⟨_, by simp only [exec1, exa, beq_self_eq_true, ByteArray.size, Nat.reduceAdd, Nat.reduceLeDiff, Nat.reduceEqDiff, Nat.reduceMul, Int.reduceToNat, reduceIte, Int.reduceLE, Int.reduceNeg, resN]; rfl, ?_⟩
        refine first_exec 8 (by decide +kernel) ⟨_, by simp only [exec1, exa, beq_self_eq_true, ByteArray.size, Nat.reduceAdd, Nat.reduceLeDiff, Nat.reduceEqDiff, Nat.reduceMul, Int.reduceToNat, reduceIte, Int.reduceLE, Int.reduceNeg]; rfl, ?_⟩
        refine first_exec 9 (by decide +kernel) ⟨_, by simp only [exec1, exa, beq_self_eq_true, ByteArray.size, Nat.reduceAdd, Nat.reduceLeDiff, Nat.reduceEqDiff, Nat.reduceMul, Int.reduceToNat, reduceIte, Int.reduceLE, Int.reduceNeg]; rfl, ?_⟩
        refine runsw_end (by decide +kernel) ?_
        refine le_mk ?sle ?mle ?swf ?mwf (fun i hi => live_upd i (kept2 i hi)) (by rfl)
        case swf => repeat (first | exact swf_top _ | refine swf_upd ?_ (by simp [A.ids, upd_app, h22, h23, Nat.add_left_cancel_iff]))
        case mwf => exact mwf_some hW2 (fun i hi => by simp [O.ids] at hi)
        case sle => repeat (first | exact sle_top _ | exact sle_refl _ | refine sle_upd ?_ (by first | rfl | (simp only [upd_app, killS_app, A.kill, entry_zero, entry_succ, Nat.reduceEqDiff, reduceIte, Nat.add_left_cancel_iff] <;> rfl)))
        case mle => exact mle_refl' rfl
        intro st' hle
        refine W.weaken hle ?_
        clear hle st'
        repeat (first | refine W.seq ?_ | refine W.block ?_ | refine W.skip ?_ | refine W.exit ?_ | refine W.region tab_ok b (by decide) (exec_run (by simp only [exa, beq_self_eq_true, ByteArray.size, Nat.reduceAdd, Nat.reduceLeDiff, Nat.reduceEqDiff, Nat.reduceMul, Int.reduceToNat, reduceIte, Int.reduceLE, Int.reduceNeg, h22, hB2, Nat.add_left_cancel_iff]; rfl)) ?_)
        refine W.ret ⟨.inr rfl, by rfl, j, (some L), ?res, ?hi, ?hx, ?hij, ?keep⟩
        case res => simp only [Try.f18, resE, resOne, fin, toT, resN, exa, beq_self_eq_true, ByteArray.size, Nat.reduceAdd, Nat.reduceLeDiff, Nat.reduceEqDiff, Nat.reduceMul, Int.reduceToNat, reduceIte, Int.reduceLE, Int.reduceNeg] <;> rfl
        case hi => exact (upd_ne _ _ (fun e => cast (hjb _) e)).trans h2j
        case hx => exact .inl rfl
        case hij => exact .inl rfl
        case keep => exact fun u z hu hz => .inl ((upd_ne _ _ (fun e => by subst e; rw [hM] at hz; cases hz)).trans (hk2 u z hu hz))
      | some LT =>
        skip
        refine W.regionX tab_ok follows_mixed ⟨upd (upd (upd (upd (fun _ => .top) 2 (.ptr (b + 2) 0)) 3 (.ptr (b + 3) 0)) 12 (.map (b + 60))) 13 (.c (.bool okT)), upd M2 (b + 60) (some (.names (some LT)))⟩ ?_ ?_
        refine rx_field (base := b) tab_ok (by decide) (by decide +kernel) 2 rfl rfl (by simp only [exa, beq_self_eq_true, ByteArray.size, Nat.reduceAdd, Nat.reduceLeDiff, Nat.reduceEqDiff, Nat.reduceMul, Int.reduceToNat, reduceIte, Int.reduceLE, Int.reduceNeg, h22, h23, hB3]; rfl) rfl rfl (by decide +kernel) (by decide +kernel) ⟨_, by simp only [exec1, exa, beq_self_eq_true, ByteArray.size, Nat.reduceAdd, Nat.reduceLeDiff, Nat.reduceEqDiff, Nat.reduceMul, Int.reduceToNat, reduceIte, Int.reduceLE, Int.reduceNeg, h22, h23, hB3]; rfl, ?_⟩
        refine rx_runs (base := b) tab_ok (by decide) ?_
        refine first_exec 0 (by decide +kernel) ⟨_, by simp only [exec1, exa, beq_self_eq_true, ByteArray.size, Nat.reduceAdd, Nat.reduceLeDiff, Nat.reduceEqDiff, Nat.reduceMul, Int.reduceToNat, reduceIte, Int.reduceLE, Int.reduceNeg, h22, hB2]; rfl, ?_⟩
        refine runs_node [1, 3] (by decide +kernel) (by decide) ?_
        refine step_callE (D := []) rfl rfl rfl rfl rfl rfl rfl (fun u hu => by simp at hu) (by simp) (cvs_cons cv_refl cvs_nil) hcl ?_ ?_
        simp only [killL, upd_upd]
        refine first_exec 3 (by decide +kernel) ⟨_, by simp only [exec1, exa, beq_self_eq_true, ByteArray.size, Nat.reduceAdd, Nat.reduceLeDiff, Nat.reduceEqDiff, Nat.reduceMul, Int.reduceToNat, reduceIte, Int.reduceLE, Int.reduceNeg, h23, hB3, Nat.add_left_cancel_iff]; rfl, ?_⟩
        refine runs_node [4] (by decide +kernel) (by decide) ?_
        refine step_callE (D := [b + 60]) rfl rfl rfl rfl rfl rfl rfl (fun u hu => by simp at hu; subst hu; exact nkq) (by simp) (cvs_cons cv_refl (cvs_cons cv_refl cvs_nil)) hT2 ?_ trivial
        simp only [killL, upd_upd]
        refine first_exec 5 (by decide +kernel) ⟨_, by simp only [exec1, exa, beq_self_eq_true, ByteArray.size, Nat.reduceAdd, Nat.reduceLeDiff, Nat.reduceEqDiff, Nat.reduceMul, Int.reduceToNat, reduceIte, Int.reduceLE, Int.reduceNeg]; rfl, ?_⟩
        refine first_exec 6 (by decide +kernel) ⟨_, by simp only [exec1, exa, beq_self_eq_true, ByteArray.size, Nat.reduceAdd, Nat.reduceLeDiff, Nat.reduceEqDiff, Nat.reduceMul, Int.reduceToNat, reduceIte, Int.reduceLE, Int.reduceNeg, resN]; rfl, ?_⟩
        refine first_exec 7 (by decide +kernel) ⟨_, by simp only [exec1, exa, beq_self_eq_true, ByteArray.size, Nat.reduceAdd, Nat.reduceLeDiff, Nat.reduceEqDiff, Nat.reduceMul, Int.reduceToNat, reduceIte, Int.reduceLE, Int.reduceNeg, resN]; rfl, ?_⟩
        refine first_exec 8 (by decide +kernel) ⟨_, by simp only [exec1, exa, beq_self_eq_true, ByteArray.size, Nat.reduceAdd, Nat.reduceLeDiff, Nat.reduceEqDiff, Nat.reduceMul, Int.reduceToNat, reduceIte, Int.reduceLE, Int.reduceNeg]; rfl, ?_⟩
        refine first_exec 9 (by decide +kernel) ⟨_, by simp only [exec1, exa, beq_self_eq_true, ByteArray.size, Nat.reduceAdd, Nat.reduceLeDiff, Nat.reduceEqDiff, Nat.reduceMul, Int.reduceToNat, reduceIte, Int.reduceLE, Int.reduceNeg]; rfl, ?_⟩
        refine runsw_end (by decide +kernel) ?_
        refine le_mk ?sle ?mle ?swf ?mwf (fun i hi => live_upd i (kept2 i hi)) (by rfl)
        case swf => repeat (first | exact swf_top _ | refine swf_upd ?_ (by simp [A.ids, upd_app, h22, h23, Nat.add_left_cancel_iff]))
        case mwf => exact mwf_some hW2 (fun i hi => by simp [O.ids] at hi)
        case sle => repeat (first | exact sle_top _ | exact sle_refl _ | refine sle_upd ?_ (by first | rfl | (simp only [upd_app, killS_app, A.kill, entry_zero, entry_succ, Nat.reduceEqDiff, reduceIte, Nat.add_left_cancel_iff] <;> rfl)))
        case mle => exact mle_refl' rfl
        refine step_exec ⟨_, by simp only [exec1, exa, beq_self_eq_true, ByteArray.size, Nat.reduceAdd, Nat.reduceLeDiff, Nat.reduceEqDiff, Nat.reduceMul, Int.reduceToNat, reduceIte, Int.reduceLE, Int.reduceNeg, h23, hB3]; rfl, ?_⟩ trivial
        refine runs_node [1] (by decide +kernel) (by decide) ?_
        refine step_callE (D := []) rfl rfl rfl rfl rfl rfl rfl (fun u hu => by simp at hu) (by simp) (cvs_cons cv_refl cvs_nil) hcl ?_ trivial
        simp only [killL, upd_upd]
        refine runs_node [4] (by decide +kernel) (by decide) ?_
        refine step_callE (D := [b + 60]) rfl rfl rfl rfl rfl rfl rfl (fun u hu => by simp at hu; subst hu; exact nkq) (by simp) (cvs_cons cv_refl (cvs_cons cv_refl cvs_nil)) hT2 ?_ trivial
        simp only [killL, upd_upd]
        refine first_exec 5 (by decide +kernel) ⟨_, by simp only [exec1, exa, beq_self_eq_true, ByteArray.size, Nat.reduceAdd, Nat.reduceLeDiff, Nat.reduceEqDiff, Nat.reduceMul, Int.reduceToNat, reduceIte, Int.reduceLE, Int.reduceNeg]; rfl, ?_⟩
        refine first_exec 6 (by decide +kernel) ⟨_, by simp only [exec1, exa, beq_self_eq_true, ByteArray.size, Nat.reduceAdd, Nat.reduceLeDiff, Nat.reduceEqDiff, Nat.reduceMul, Int.reduceToNat, reduceIte, Int.reduceLE, Int.reduceNeg, resN]; rfl, ?_⟩
        refine first_exec 7 (by decide +kernel) ⟨_, by simp only [exec1, exa, beq_self_eq_true, ByteArray.size, Nat.reduceAdd, Nat.reduceLeDiff, Nat.reduceEqDiff, Nat.reduceMul, Int.reduceToNat, reduceIte, Int.reduceLE, Int.reduceNeg, resN]; rfl, ?_⟩
        refine first_exec 8 (by decide +kernel) ⟨_, by simp only [exec1, exa, beq_self_eq_true, ByteArray.size, Nat.reduceAdd, Nat.reduceLeDiff, Nat.reduceEqDiff, Nat.reduceMul, Int.reduceToNat, reduceIte, Int.reduceLE, Int.reduceNeg]; rfl, ?_⟩
        refine first_exec 9 (by decide +kernel) ⟨_, by simp only [exec1, exa, beq_self_eq_true, ByteArray.size, Nat.reduceAdd, Nat.reduceLeDiff, Nat.reduceEqDiff, Nat.reduceMul, Int.reduceToNat, reduceIte, Int.reduceLE, Int.reduceNeg]; rfl, ?_⟩
        refine runsw_end (by decide +kernel) ?_
        refine le_mk ?sle ?mle ?swf ?mwf (fun i hi => live_upd i (kept2 i hi)) (by rfl)
        case swf => repeat (first | exact swf_top _ | refine swf_upd ?_ (by simp [A.ids, upd_app, h22, h23, Nat.add_left_cancel_iff]))
        case mwf => exact mwf_some hW2 (fun i hi => by simp [O.ids] at hi)
        case sle => repeat (first | exact sle_top _ | exact sle_refl _ | refine sle_upd ?_ (by first | rfl | (simp only [upd_app, killS_app, A.kill, entry_zero, entry_succ, Nat.reduceEqDiff, reduceIte, Nat.add_left_cancel_iff] <;> rfl)))
        case mle => exact mle_refl' rfl
        intro st' hle
        refine W.weaken hle ?_
        clear hle st'
        repeat (first | refine W.seq ?_ | refine W.block ?_ | refine W.skip ?_ | refine W.exit ?_ | refine W.region tab_ok b (by decide) (exec_run (by simp only [exa, beq_self_eq_true, ByteArray.size, Nat.reduceAdd, Nat.reduceLeDiff, Nat.reduceEqDiff, Nat.reduceMul, Int.reduceToNat, reduceIte, Int.reduceLE, Int.reduceNeg, h22, hB2, Nat.add_left_cancel_iff]; rfl)) ?_)
        refine W.ret ⟨.inr rfl, by rfl, j, (some L), ?res, ?hi, ?hx, ?hij, ?keep⟩
        case res => simp only [Try.f18, resE, resOne, fin, toT, resN, exa, beq_self_eq_true, ByteArray.size, Nat.reduceAdd, Nat.reduceLeDiff, Nat.reduceEqDiff, Nat.reduceMul, Int.reduceToNat, reduceIte, Int.reduceLE, Int.reduceNeg] <;> rfl
        case hi => exact (upd_ne _ _ (fun e => cast (hjb _) e)).trans h2j
        case hx => exact .inl rfl
        case hij => exact .inl rfl
        case keep => exact fun u z hu hz => .inl ((upd_ne _ _ (fun e => by subst e; rw [hM] at hz; cases hz)).trans (hk2 u z hu hz))
    have k4' : decide (k = 4) = false := by simp [k4]
    rw [if_neg k4]
    refine W.cond rfl (fun h => absurd h (by simp [k4])) (fun _ => ?_)
    repeat (first | refine W.seq ?_ | refine W.block ?_ | refine W.skip ?_ | refine W.exit ?_ | refine W.region tab_ok b (by decide) (exec_run (by simp only [exa, beq_self_eq_true, ByteArray.size, Nat.reduceAdd, Nat.reduceLeDiff, Nat.reduceEqDiff, Nat.reduceMul, Int.reduceToNat, reduceIte, Int.reduceLE, Int.reduceNeg, h22, h23, hB3]; rfl)) ?_)
    by_cases k6 : k = 6
    · subst k6
      rw [if_pos rfl]
      refine W.cond rfl (fun _ => ?_) (fun h => absurd h (by simp))
      repeat (first | refine W.seq ?_ | refine W.block ?_ | refine W.skip ?_ | refine W.exit ?_ | refine W.region tab_ok b (by decide) (exec_run (by simp only [exa, beq_self_eq_true, ByteArray.size, Nat.reduceAdd, Nat.reduceLeDiff, Nat.reduceEqDiff, Nat.reduceMul, Int.reduceToNat, reduceIte, Int.reduceLE, Int.reduceNeg, h22, hB2]; rfl)) ?_)
      refine W.ret ⟨.inr rfl, by rfl, j, (some L), ?res, ?hi, ?hx, ?hij, ?keep⟩
      case res => simp only [Try.f18, resE, resOne, fin, toT, resN, exa, beq_self_eq_true, ByteArray.size, Nat.reduceAdd, Nat.reduceLeDiff, Nat.reduceEqDiff, Nat.reduceMul, Int.reduceToNat, reduceIte, Int.reduceLE, Int.reduceNeg] <;> rfl
      case hi => exact h2j
      case hx => exact .inr rfl
      case hij => exact .inl rfl
      case keep => exact fun u z hu hz => .inl (hk2 u z hu hz)
    rw [if_neg k6]
    refine W.cond rfl (fun h => absurd h (by simp [k6])) (fun _ => ?_)
    repeat (first | refine W.seq ?_ | refine W.block ?_ | refine W.skip ?_ | refine W.exit ?_ | refine W.region tab_ok b (by decide) (exec_run (by simp only [exa, beq_self_eq_true, ByteArray.size, Nat.reduceAdd, Nat.reduceLeDiff, Nat.reduceEqDiff, Nat.reduceMul, Int.reduceToNat, reduceIte, Int.reduceLE, Int.reduceNeg, h22, hB2]; rfl)) ?_)
    refine W.ret ⟨.inr rfl, by rfl, j, (some L), ?res, ?hi, ?hx, ?hij, ?keep⟩
    case res => simp only [Try.f18, resE, resOne, fin, toT, resN, exa, beq_self_eq_true, ByteArray.size, Nat.reduceAdd, Nat.reduceLeDiff, Nat.reduceEqDiff, Nat.reduceMul, Int.reduceToNat, reduceIte, Int.reduceLE, Int.reduceNeg] <;> rfl
    case hi => exact h2j
    case hx => exact .inl rfl
    case hij => exact .inl rfl
    case keep => exact fun u z hu hz => .inl (hk2 u z hu hz)
end V
end Go.Proofs.Ytgaipdillmleeaa
end
section
/- The document's sure walked, out of its one. -/
set_option linter.unusedVariables false
set_option linter.unusedSimpArgs false
namespace Go.Proofs.Ytgaipdillmleeaa
namespace V
open Go.RowKit AS
theorem wrap_lo' {z : Int} (h1 : -9223372036854775808 ≤ z) (h2 : z < 9223372036854775808) : IntKind.i64.wrap z = z := by
  by_cases h : 0 ≤ z
  · obtain ⟨k, rfl⟩ := Int.eq_ofNat_of_zero_le h
    exact wrap_nat (by omega)
  · have h3 : z % 18446744073709551616 = z + 18446744073709551616 := by omega
    have h4 : (z + 18446744073709551616) ≥ 9223372036854775808 := by omega
    simp [IntKind.wrap, IntKind.bits, IntKind.signed, h3]
    omega
def resR (x : Tr) : A := .tup [(false, [.sl (cBs x.1)]), (false, [.bool x.2.1]), (false, [.bool x.2.2])]
def ROk (x : Stmt) : Prop := ∀ (H : List Nm), H.length + cntS x ≤ 1000000000 → ∀ m, COk Try.prog 22 [.c (.sl (cBs H)), .agg (cStmt x)] m (resR (oneR H x))
set_option maxHeartbeats 4000000 in
theorem sure_of (l : List Stmt) (hl : l.length ≤ 1048576) (hone : ∀ x ∈ l, ROk x) (H0 : List Nm) (hH : H0.length + cntSs l ≤ 1000000000) (m : Mem) : COk Try.prog 15 [.c (.sl (cBs H0)), .c (.sl (l.map cStmt))] m (resR (sureR H0 l)) := by
  refine (ok_pure tab_ok Try.func15 (by kernel_rfl) rfl rfl (by rfl) (by rfl) (by rfl) (fun R hkeep => ?_) m)
  repeat (first | refine W.seq ?_ | refine W.block ?_ | refine W.skip ?_ | refine W.exit ?_ | refine W.region tab_ok 0 (by decide) (exec_run (by simp only [exa, beq_self_eq_true, ByteArray.size, Nat.reduceAdd, Nat.reduceLeDiff, Nat.reduceEqDiff, Nat.reduceMul, Int.reduceToNat, reduceIte, Int.reduceLE, Int.reduceNeg]; rfl)) ?_)
  refine W.loop (ι := Nat × List Nm) (fun i => ⟨upd (upd (upd (upd (upd (fun _ => .top) 0 (.c (.sl (cBs i.2)))) 1 (.c (.sl (l.map cStmt)))) 12 (.c (.sl (l.map cStmt)))) 13 (.c (.int .i64 l.length))) 14 (.c (.int .i64 i.1)), Mem.nil⟩)
    (fun i => i.1 ≤ l.length ∧ sureR H0 l = sureR i.2 (l.drop i.1) ∧ i.2.length + cntSs (l.drop i.1) ≤ 1000000000) (fun i => l.length - i.1) (0, H0) ?start ⟨Nat.zero_le _, rfl, hH⟩ ?round
  case start =>
    refine le_mk ?sle ?mle ?swf ?mwf ?kept (by rfl)
    case kept => exact kept_not hkeep
    case swf => repeat (first | exact swf_top _ | refine swf_upd ?_ (by simp [A.ids, upd_app]))
    case mwf => repeat (first | exact mwf_nil _ | refine mwf_upd ?_ (by simp [A.ids, O.ids, upd_app]))
    case mle => repeat (first | exact mle_nil _ | exact mle_refl _ | refine mle_upd ?_ (by first | rfl | (simp only [upd_app, killM_app, Nat.reduceEqDiff, reduceIte, List.length_map]; done)))
    case sle => repeat (first | exact sle_top _ | exact sle_refl _ | refine sle_upd ?_ (by first | rfl | (simp only [upd_app, entry_zero, entry_succ, Nat.reduceEqDiff, reduceIte, List.length_map]; done)))
  case round =>
    rintro ⟨k, H⟩ ⟨hk, hall, hlen⟩
    dsimp only at hk hall hlen ⊢
    repeat (first | refine W.seq ?_ | refine W.block ?_ | refine W.skip ?_ | refine W.exit ?_ | refine W.region tab_ok 0 (by decide) (exec_run (by simp only [exa, beq_self_eq_true, ByteArray.size, Nat.reduceAdd, Nat.reduceLeDiff, Nat.reduceEqDiff, Nat.reduceMul, Int.reduceToNat, reduceIte, Int.reduceLE, Int.reduceNeg]; rfl)) ?_)
    refine W.cond rfl ?_ ?_
    · intro hlt
      simp only [decide_eq_true_eq, Int.ofNat_lt] at hlt
      obtain ⟨x, hx⟩ : ∃ x, l[k]? = some x := ⟨_, List.getElem?_eq_getElem hlt⟩
      have hxm := List.mem_of_getElem? hx
      have hdrop := drop_of_getElem? hx
      rw [hdrop] at hall hlen
      simp only [cntSs] at hlen
      obtain ⟨H', r, ok, hs⟩ : ∃ H' r ok, oneR H x = (H', r, ok) := ⟨_, _, _, rfl⟩
      rw [sureR_cons H x _ hs] at hall
      have hc := hone x hxm H (by omega)
      have hln := oneR_len x H
      rw [hs] at hc hln
      simp only [resR] at hc
      have hln : H'.length ≤ H.length + cntS x := hln
      obtain ⟨kd, nn, ty, nm, es, th, el⟩ := x
      simp only [cStmt, cExprs_map, cStmts_map] at hc
      repeat (first | refine W.seq ?_ | refine W.block ?_ | refine W.skip ?_ | refine W.exit ?_ | refine W.region tab_ok 0 (by decide) (exec_run (by simp only [exa, beq_self_eq_true, ByteArray.size, Nat.reduceAdd, Nat.reduceLeDiff, Nat.reduceEqDiff, Nat.reduceMul, Int.reduceToNat, reduceIte, Int.reduceLE, Int.reduceNeg, List.length_map, hlt, at_map hx, cStmt, cExprs_map, cStmts_map]; rfl)) ?_)
      refine W.regionK tab_ok 0 (by decide) ?_
      refine runk_split 2 (by simp only [exa, beq_self_eq_true, ByteArray.size, Nat.reduceAdd, Nat.reduceLeDiff, Nat.reduceEqDiff, Nat.reduceMul, Int.reduceToNat, reduceIte, Int.reduceLE, Int.reduceNeg, cExprs_map, cStmts_map]; rfl) ?_
      refine runk_call rfl rfl rfl rfl rfl (by simp) (cvs_cons cv_refl (cvs_cons cv_refl cvs_nil)) (hc _) ?_
      refine runk_exec (by simp only [exa, beq_self_eq_true, ByteArray.size, Nat.reduceAdd, Nat.reduceLeDiff, Nat.reduceEqDiff, Nat.reduceMul, Int.reduceToNat, reduceIte, Int.reduceLE, Int.reduceNeg]; rfl) ?_
      have hw : IntKind.i64.wrap ((l.length : Int) - 1) = (l.length : Int) - 1 := wrap_lo' (by omega) (by omega)
      cases ok with
      | false =>
        have hall : sureR H0 l = ([], false, false) := hall
        repeat (first | refine W.seq ?_ | refine W.block ?_ | refine W.skip ?_ | refine W.exit ?_ | refine W.region tab_ok 0 (by decide) (exec_run (by simp only [exa, beq_self_eq_true, ByteArray.size, Nat.reduceAdd, Nat.reduceLeDiff, Nat.reduceEqDiff, Nat.reduceMul, Int.reduceToNat, reduceIte, Int.reduceLE, Int.reduceNeg]; rfl)) ?_)
        refine W.cond rfl (fun _ => ?_) (fun h => absurd h (by simp))
        repeat (first | refine W.seq ?_ | refine W.block ?_ | refine W.skip ?_ | refine W.exit ?_ | refine W.region tab_ok 0 (by decide) (exec_run (by simp only [exa, beq_self_eq_true, ByteArray.size, Nat.reduceAdd, Nat.reduceLeDiff, Nat.reduceEqDiff, Nat.reduceMul, Int.reduceToNat, reduceIte, Int.reduceLE, Int.reduceNeg]; rfl)) ?_)
        refine W.ret ⟨.inr rfl, by rfl, ?_⟩
        simp only [Try.f15, resA, resOne, toT, fin, exa, beq_self_eq_true, ByteArray.size, Nat.reduceAdd, Nat.reduceLeDiff, Nat.reduceEqDiff, Nat.reduceMul, Int.reduceToNat, reduceIte, Int.reduceLE, Int.reduceNeg, hall, resR, List.map_nil]
      | true =>
        cases r with
        | false =>
          have hall : sureR H0 l = sureR H' (l.drop (k + 1)) := hall
          repeat (first | refine W.seq ?_ | refine W.block ?_ | refine W.skip ?_ | refine W.exit ?_ | refine W.region tab_ok 0 (by decide) (exec_run (by simp only [exa, beq_self_eq_true, ByteArray.size, Nat.reduceAdd, Nat.reduceLeDiff, Nat.reduceEqDiff, Nat.reduceMul, Int.reduceToNat, reduceIte, Int.reduceLE, Int.reduceNeg, Bool.not_true]; rfl)) ?_)
          refine W.cond rfl (fun h => absurd h (by simp)) (fun _ => ?_)
          repeat (first | refine W.seq ?_ | refine W.block ?_ | refine W.skip ?_ | refine W.exit ?_ | refine W.region tab_ok 0 (by decide) (exec_run (by simp only [exa, beq_self_eq_true, ByteArray.size, Nat.reduceAdd, Nat.reduceLeDiff, Nat.reduceEqDiff, Nat.reduceMul, Int.reduceToNat, reduceIte, Int.reduceLE, Int.reduceNeg]; rfl)) ?_)
          refine W.cond rfl (fun h => absurd h (by simp)) (fun _ => ?_)
          repeat (first | refine W.seq ?_ | refine W.block ?_ | refine W.skip ?_ | refine W.exit ?_ | refine W.region tab_ok 0 (by decide) (exec_run (by simp only [exa, beq_self_eq_true, ByteArray.size, Nat.reduceAdd, Nat.reduceLeDiff, Nat.reduceEqDiff, Nat.reduceMul, Int.reduceToNat, reduceIte, Int.reduceLE, Int.reduceNeg]; rfl)) ?_)
          refine ⟨(k + 1, H'), ⟨hlt, hall, by dsimp only; omega⟩, by dsimp only; omega, ?_⟩
          refine le_mk ?sle ?mle ?swf ?mwf ?kept (by rfl)
          case kept => exact kept_not hkeep
          case swf => repeat (first | exact swf_top _ | refine swf_upd ?_ (by simp [A.ids, upd_app]))
          case mwf => repeat (first | exact mwf_nil _ | refine mwf_upd ?_ (by simp [A.ids, O.ids, upd_app]))
          case mle => repeat (first | exact mle_nil _ | exact mle_refl _ | refine mle_upd ?_ (by first | rfl | (simp only [upd_app, killM_app, Nat.reduceEqDiff, reduceIte, wrap_succ (show k + 1 < 9223372036854775808 by omega)]; done)))
          case sle => repeat (first | exact sle_top _ | exact sle_refl _ | refine sle_upd ?_ (by first | rfl | (simp only [upd_app, entry_zero, entry_succ, Nat.reduceEqDiff, reduceIte, wrap_succ (show k + 1 < 9223372036854775808 by omega)]; done)))
        | true =>
          have hall : sureR H0 l = if (l.drop (k + 1)).length = 0 then ([], true, true) else ([], false, false) := hall
          rw [List.length_drop] at hall
          repeat (first | refine W.seq ?_ | refine W.block ?_ | refine W.skip ?_ | refine W.exit ?_ | refine W.region tab_ok 0 (by decide) (exec_run (by simp only [exa, beq_self_eq_true, ByteArray.size, Nat.reduceAdd, Nat.reduceLeDiff, Nat.reduceEqDiff, Nat.reduceMul, Int.reduceToNat, reduceIte, Int.reduceLE, Int.reduceNeg, List.length_map, hw, Bool.not_true]; rfl)) ?_)
          refine W.cond rfl ?_ ?_
          · intro h
            simp only [decide_eq_true_eq] at h
            rw [if_neg (by omega)] at hall
            repeat (first | refine W.seq ?_ | refine W.block ?_ | refine W.skip ?_ | refine W.exit ?_ | refine W.region tab_ok 0 (by decide) (exec_run (by simp only [exa, beq_self_eq_true, ByteArray.size, Nat.reduceAdd, Nat.reduceLeDiff, Nat.reduceEqDiff, Nat.reduceMul, Int.reduceToNat, reduceIte, Int.reduceLE, Int.reduceNeg]; rfl)) ?_)
            refine W.ret ⟨.inr rfl, by rfl, ?_⟩
            simp only [Try.f15, resA, resOne, toT, fin, exa, beq_self_eq_true, ByteArray.size, Nat.reduceAdd, Nat.reduceLeDiff, Nat.reduceEqDiff, Nat.reduceMul, Int.reduceToNat, reduceIte, Int.reduceLE, Int.reduceNeg, hall, resR, List.map_nil]
          · intro h
            simp only [decide_eq_false_iff_not] at h
            rw [if_pos (by omega)] at hall
            repeat (first | refine W.seq ?_ | refine W.block ?_ | refine W.skip ?_ | refine W.exit ?_ | refine W.region tab_ok 0 (by decide) (exec_run (by simp only [exa, beq_self_eq_true, ByteArray.size, Nat.reduceAdd, Nat.reduceLeDiff, Nat.reduceEqDiff, Nat.reduceMul, Int.reduceToNat, reduceIte, Int.reduceLE, Int.reduceNeg]; rfl)) ?_)
            refine W.cond rfl (fun _ => ?_) (fun h => absurd h (by simp))
            repeat (first | refine W.seq ?_ | refine W.block ?_ | refine W.skip ?_ | refine W.exit ?_ | refine W.region tab_ok 0 (by decide) (exec_run (by simp only [exa, beq_self_eq_true, ByteArray.size, Nat.reduceAdd, Nat.reduceLeDiff, Nat.reduceEqDiff, Nat.reduceMul, Int.reduceToNat, reduceIte, Int.reduceLE, Int.reduceNeg]; rfl)) ?_)
            refine W.ret ⟨.inr rfl, by rfl, ?_⟩
            simp only [Try.f15, resA, resOne, toT, fin, exa, beq_self_eq_true, ByteArray.size, Nat.reduceAdd, Nat.reduceLeDiff, Nat.reduceEqDiff, Nat.reduceMul, Int.reduceToNat, reduceIte, Int.reduceLE, Int.reduceNeg, hall, resR, List.map_nil]
    · intro hge
      simp only [decide_eq_false_iff_not, Int.ofNat_lt] at hge
      obtain rfl : k = l.length := by omega
      rw [List.drop_length] at hall
      have hall : sureR H0 l = (H, false, true) := by rw [hall]; simp only [sureR]
      repeat (first | refine W.seq ?_ | refine W.block ?_ | refine W.skip ?_ | refine W.exit ?_ | refine W.region tab_ok 0 (by decide) (exec_run (by simp only [exa, beq_self_eq_true, ByteArray.size, Nat.reduceAdd, Nat.reduceLeDiff, Nat.reduceEqDiff, Nat.reduceMul, Int.reduceToNat, reduceIte, Int.reduceLE, Int.reduceNeg]; rfl)) ?_)
      refine W.ret ⟨.inr rfl, by rfl, ?_⟩
      simp only [Try.f15, resA, resOne, toT, fin, exa, beq_self_eq_true, ByteArray.size, Nat.reduceAdd, Nat.reduceLeDiff, Nat.reduceEqDiff, Nat.reduceMul, Int.reduceToNat, reduceIte, Int.reduceLE, Int.reduceNeg, hall, resR]
end V
end Go.Proofs.Ytgaipdillmleeaa
end
