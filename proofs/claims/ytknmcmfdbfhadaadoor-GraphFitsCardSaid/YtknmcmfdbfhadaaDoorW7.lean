/- Joined by my own program, in build order: Lck, LawChecks15, Mb, Fp, Lf, LawFits15, LawI15. -/
import Derived.Test.YtknmcmfdbfhadaaDoorW4
import Derived.Test.YtknmcmfdbfhadaaDoorW6
set_option linter.unusedVariables false
set_option linter.unusedSimpArgs false
section
/- GraphChecks: true for every input. -/
set_option linter.unusedVariables false
set_option linter.unusedSimpArgs false
namespace Go.Proofs.YtknmcmfdbfhadaaDoor
namespace V
open Go.RowKit G
/-- Rows of which the first k are turned. -/
theorem half_at {α β : Type} (f g : α → β) {l : List α} {k : Nat} {x : α} (hx : l[k]? = some x) : ((l.take k).map f ++ (l.drop k).map g)[k]? = some (g x) := by
  have hk := (List.getElem?_eq_some_iff.1 hx).1
  rw [List.getElem?_append_right (by simp; omega), List.getElem?_map, List.getElem?_drop, show k + (k - ((l.take k).map f).length) = k by simp; omega, hx]
  rfl
theorem half_len {α β : Type} (f g : α → β) (l : List α) (k : Nat) : ((l.take k).map f ++ (l.drop k).map g).length = l.length := by simp; omega
theorem half_set {α β : Type} (f g : α → β) {l : List α} {k : Nat} {x : α} (hx : l[k]? = some x) : ((l.take k).map f ++ (l.drop k).map g).set k (f x) = (l.take (k + 1)).map f ++ (l.drop (k + 1)).map g := by
  have hk := (List.getElem?_eq_some_iff.1 hx).1
  rw [List.take_add_one, hx, Option.toList_some, List.map_append, List.map_cons, List.map_nil, List.append_assoc, List.set_append, if_neg (by simp; omega)]
  congr 1
  have hd : l.drop k = x :: l.drop (k + 1) := by
    rw [List.drop_eq_getElem_cons hk]
    congr 1
    exact (List.getElem?_eq_some_iff.1 hx).2
  rw [hd, List.map_cons, show k - ((l.take k).map f).length = 0 by simp; omega]
  rfl
def c99 (e : Int × Int) : List C := [.int .i64 99, .int .i64 e.2]
set_option maxHeartbeats 4000000 in
theorem lawChecks_ok (n : Int) (l : List (Int × Int)) (m : Mem) : COk Tryd.prog 3 [.c (.int .i64 n), .c (.sl (l.map cE))] m (.c (.bool true)) := by
  refine (ok_pure tab_ok Tryd.func3 (by kernel_rfl) rfl rfl (by rfl) (by rfl) (by rfl) (fun R hkeep => ?_) m)
  by_cases hm : (1000 : Int) < (l.length : Int)
  · repeat (first | refine W.seq ?_ | refine W.block ?_ | refine W.skip ?_ | refine W.exit ?_ | refine W.region tab_ok 0 (by decide) (exec_run (by simp only [exa, beq_self_eq_true, ByteArray.size, Nat.reduceAdd, Nat.reduceLeDiff, Nat.reduceEqDiff, Nat.reduceMul, Int.reduceToNat, reduceIte, Int.reduceLE, Int.reduceNeg, hm]; rfl)) ?_)
    refine W.cond rfl ?_ ?_
    · intro _
      (repeat (first | refine W.seq ?_ | refine W.block ?_ | refine W.skip ?_ | refine W.exit ?_))
      refine W.regionK tab_ok 0 (by decide) ?_
      refine runk_split 0 (by simp only [exa, beq_self_eq_true, ByteArray.size, Nat.reduceAdd, Nat.reduceLeDiff, Nat.reduceEqDiff, Nat.reduceMul, Int.reduceToNat, reduceIte, Int.reduceLE, Int.reduceNeg]; rfl) ?_
      refine runk_call rfl rfl rfl rfl rfl (by simp) cvs_nil (live_ok _) ?_
      refine runk_exec (by simp only [exa, beq_self_eq_true, ByteArray.size, Nat.reduceAdd, Nat.reduceLeDiff, Nat.reduceEqDiff, Nat.reduceMul, Int.reduceToNat, reduceIte, Int.reduceLE, Int.reduceNeg]; rfl) ?_
      repeat (first | refine W.seq ?_ | refine W.block ?_ | refine W.skip ?_ | refine W.exit ?_ | refine W.region tab_ok 0 (by decide) (exec_run (by simp only [exa, beq_self_eq_true, ByteArray.size, Nat.reduceAdd, Nat.reduceLeDiff, Nat.reduceEqDiff, Nat.reduceMul, Int.reduceToNat, reduceIte, Int.reduceLE, Int.reduceNeg]; rfl)) ?_)
      refine W.ret ⟨.inr rfl, by rfl, ?_⟩
      simp only [Tryd.f3, resA, resOne, toT, fin, exa, beq_self_eq_true, ByteArray.size, Nat.reduceAdd, Nat.reduceLeDiff, Nat.reduceEqDiff, Nat.reduceMul, Int.reduceToNat, reduceIte, Int.reduceLE, Int.reduceNeg]
    · intro h; cases h
  have hl : l.length ≤ 1000 := by omega
  have hs1 : ∀ m, COk Tryd.prog 12 [.c (.sl ((l.map turnE).map cE)), .c (.sl ((l.map turnE).map cE))] m (.c (.bool true)) := fun m => by
    have := sameEdges_ok (l.map turnE) (l.map turnE) (by rw [List.length_map]; omega) m
    rwa [show decide (l.map turnE = l.map turnE) = true by simp] at this
  have hs2 : ∀ m, COk Tryd.prog 12 [.c (.sl (l.map cE)), .c (.sl (l.map cE))] m (.c (.bool true)) := fun m => by
    have := sameEdges_ok l l (by omega) m
    rwa [show decide (l = l) = true by simp] at this
  repeat (first | refine W.seq ?_ | refine W.block ?_ | refine W.skip ?_ | refine W.exit ?_ | refine W.region tab_ok 0 (by decide) (exec_run (by simp only [exa, beq_self_eq_true, ByteArray.size, Nat.reduceAdd, Nat.reduceLeDiff, Nat.reduceEqDiff, Nat.reduceMul, Int.reduceToNat, reduceIte, Int.reduceLE, Int.reduceNeg, hm]; rfl)) ?_)
  refine W.cond rfl ?_ ?_
  · intro h; cases h
  intro _
  (repeat (first | refine W.seq ?_ | refine W.block ?_ | refine W.skip ?_ | refine W.exit ?_))
  refine W.regionK tab_ok 0 (by decide) ?_
  refine runk_split 1 (by simp only [exa, beq_self_eq_true, ByteArray.size, Nat.reduceAdd, Nat.reduceLeDiff, Nat.reduceEqDiff, Nat.reduceMul, Int.reduceToNat, reduceIte, Int.reduceLE, Int.reduceNeg]; rfl) ?_
  refine runk_appendNil tab_ok 200 true rfl rfl rfl rfl rfl rfl rfl (by simp only [exa, beq_self_eq_true, ByteArray.size, Nat.reduceAdd, Nat.reduceLeDiff, Nat.reduceEqDiff, Nat.reduceMul, Int.reduceToNat, reduceIte, Int.reduceLE, Int.reduceNeg]) (by first | rfl | (simp only [exa, beq_self_eq_true, ByteArray.size, Nat.reduceAdd, Nat.reduceLeDiff, Nat.reduceEqDiff, Nat.reduceMul, Int.reduceToNat, reduceIte, Int.reduceLE, Int.reduceNeg]; rfl)) rfl rfl rfl rfl (fun z hz => by obtain ⟨y, -, rfl⟩ := List.mem_map.1 hz; rfl) (by rw [List.length_map]; omega) (by decide) ?_
  refine runk_exec (by simp only [exa, beq_self_eq_true, ByteArray.size, Nat.reduceAdd, Nat.reduceLeDiff, Nat.reduceEqDiff, Nat.reduceMul, Int.reduceToNat, reduceIte, Int.reduceLE, Int.reduceNeg]; rfl) ?_
  (repeat (first | refine W.seq ?_ | refine W.block ?_ | refine W.skip ?_ | refine W.exit ?_))
  refine W.regionK (T := tabT) T.tab_ok 0 (by decide) ?_
  refine runk_split 1 (by simp only [exa, beq_self_eq_true, ByteArray.size, Nat.reduceAdd, Nat.reduceLeDiff, Nat.reduceEqDiff, Nat.reduceMul, Int.reduceToNat, reduceIte, Int.reduceLE, Int.reduceNeg, T.tabs]; rfl) ?_
  refine runk_callE (D := []) rfl rfl rfl rfl rfl (fun j hj => by simp at hj) (by simp) (cvs_cons (cv_own rfl) cvs_nil) (turn_mut l (by omega) _ 1000 (fun d => by simp only [upd_app, mem_nil_app]; repeat (rw [if_neg (by omega)]))) ?_
  simp only [killL, putS, upd_upd]
  refine runk_exec (by simp only [exa, beq_self_eq_true, ByteArray.size, Nat.reduceAdd, Nat.reduceLeDiff, Nat.reduceEqDiff, Nat.reduceMul, Int.reduceToNat, reduceIte, Int.reduceLE, Int.reduceNeg, T.tabs]; rfl) ?_
  (repeat (first | refine W.seq ?_ | refine W.block ?_ | refine W.skip ?_ | refine W.exit ?_))
  refine W.regionK tab_ok 0 (by decide) ?_
  refine runk_split 2 (by simp only [exa, beq_self_eq_true, ByteArray.size, Nat.reduceAdd, Nat.reduceLeDiff, Nat.reduceEqDiff, Nat.reduceMul, Int.reduceToNat, reduceIte, Int.reduceLE, Int.reduceNeg]; rfl) ?_
  refine runk_call rfl rfl rfl rfl rfl (by simp) (cvs_cons cv_refl cvs_nil) (refTurn_ok l (by omega) _) ?_
  refine runk_split 0 (by simp only [exa, beq_self_eq_true, ByteArray.size, Nat.reduceAdd, Nat.reduceLeDiff, Nat.reduceEqDiff, Nat.reduceMul, Int.reduceToNat, reduceIte, Int.reduceLE, Int.reduceNeg]; rfl) ?_
  refine runk_callR rfl rfl rfl rfl rfl (by simp) (cvrs_cons (cvr_row rfl) (cvrs_cons cvr_refl cvrs_nil)) (by rfl) (by rfl) hs1 ?_
  refine runk_split 3 (by simp only [exa, beq_self_eq_true, ByteArray.size, Nat.reduceAdd, Nat.reduceLeDiff, Nat.reduceEqDiff, Nat.reduceMul, Int.reduceToNat, reduceIte, Int.reduceLE, Int.reduceNeg]; rfl) ?_
  refine runk_call rfl rfl rfl rfl rfl (by simp) (cvs_cons cv_refl (cvs_cons (cv_own rfl) cvs_nil)) (check_ok n l (by omega) _) ?_
  refine runk_split 2 (by simp only [exa, beq_self_eq_true, ByteArray.size, Nat.reduceAdd, Nat.reduceLeDiff, Nat.reduceEqDiff, Nat.reduceMul, Int.reduceToNat, reduceIte, Int.reduceLE, Int.reduceNeg]; rfl) ?_
  refine runk_call rfl rfl rfl rfl rfl (by simp) (cvs_cons cv_refl (cvs_cons cv_refl cvs_nil)) (refCheck_ok n l (by omega) _) ?_
  refine runk_exec (by simp only [exa, beq_self_eq_true, ByteArray.size, Nat.reduceAdd, Nat.reduceLeDiff, Nat.reduceEqDiff, Nat.reduceMul, Int.reduceToNat, reduceIte, Int.reduceLE, Int.reduceNeg, eq_self]; rfl) ?_
  repeat (first | refine W.seq ?_ | refine W.block ?_ | refine W.skip ?_ | refine W.exit ?_ | refine W.region tab_ok 0 (by decide) (exec_run (by simp only [exa, beq_self_eq_true, ByteArray.size, Nat.reduceAdd, Nat.reduceLeDiff, Nat.reduceEqDiff, Nat.reduceMul, Int.reduceToNat, reduceIte, Int.reduceLE, Int.reduceNeg]; rfl)) ?_)
  refine W.loop (ι := Nat) (fun k => ⟨upd (upd (upd (upd (upd (upd (upd (fun _ => .top) 1 (.c (.sl (l.map cE)))) 5 (.own 200)) 6 (.own 1008)) 7 (.c (.bool true))) 30 (.own 1008)) 31 (.c (.int .i64 l.length))) 32 (.c (.int .i64 k)),
      upd (upd Mem.nil 200 (some (.arr 29 2 (l.map cE)))) 1008 (some (.mrow 29 2 (((l.map turnE).take k).map c99 ++ ((l.map turnE).drop k).map cE)))⟩) (fun k => k ≤ l.length) (fun k => l.length - k) 0 ?start (Nat.zero_le _) ?round
  case start =>
    refine le_mk ?sle ?mle ?swf ?mwf (kept_not hkeep) (by rfl)
    case swf => repeat (first | exact swf_top _ | refine swf_upd ?_ (by simp [A.ids, upd_app, List.take, List.drop, List.map_nil, List.nil_append, rowO]))
    case mwf => repeat (first | exact mwf_nil _ | refine mwf_upd ?_ (by simp [A.ids, O.ids, upd_app, List.take, List.drop, List.map_nil, List.nil_append, rowO]))
    case mle => repeat (first | exact mle_nil _ | exact mle_refl _ | refine mle_upd ?_ (by first | rfl | (simp only [upd_app, killM_app, O.kill, A.kill, Nat.reduceEqDiff, reduceIte, Option.map_some, Option.map_none, List.map_cons, List.map_nil, List.take, List.drop, List.map_nil, List.nil_append, rowO]; done)))
    case sle => repeat (first | exact sle_top _ | exact sle_refl _ | refine sle_upd ?_ (by first | rfl | (simp only [upd_app, killS_app, A.kill, entry_zero, entry_succ, Nat.reduceEqDiff, reduceIte, List.take, List.drop, List.map_nil, List.nil_append, rowO]; done)))
  case round =>
    intro k hk
    repeat (first | refine W.seq ?_ | refine W.block ?_ | refine W.skip ?_ | refine W.exit ?_ | refine W.region tab_ok 0 (by decide) (exec_run (by simp only [exa, beq_self_eq_true, ByteArray.size, Nat.reduceAdd, Nat.reduceLeDiff, Nat.reduceEqDiff, Nat.reduceMul, Int.reduceToNat, reduceIte, Int.reduceLE, Int.reduceNeg]; rfl)) ?_)
    refine W.cond rfl ?_ ?_
    · intro hlt
      simp only [decide_eq_true_eq, Int.ofNat_lt] at hlt
      obtain ⟨⟨x, y⟩, hx⟩ : ∃ x, (l.map turnE)[k]? = some x := ⟨_, List.getElem?_eq_getElem (by rw [List.length_map]; exact hlt)⟩
      have hat := half_at c99 cE hx
      have hset := half_set c99 cE hx
      have hlen := half_len c99 cE (l.map turnE) k
      rw [List.length_map] at hlen
      have hcx : cE (x, y) = [.int .i64 x, .int .i64 y] := rfl
      have hset : List.set _ k [C.int .i64 99, C.int .i64 y] = _ := hset
      rw [hcx] at hat
      repeat (first | refine W.seq ?_ | refine W.block ?_ | refine W.skip ?_ | refine W.exit ?_ | refine W.region tab_ok 0 (by decide) (exec_run (by simp only [exa, beq_self_eq_true, ByteArray.size, Nat.reduceAdd, Nat.reduceLeDiff, Nat.reduceEqDiff, Nat.reduceMul, Int.reduceToNat, reduceIte, Int.reduceLE, Int.reduceNeg, hat, hlen, hlt, Int.toNat_natCast, and_self]; rfl)) ?_)
      refine ⟨k + 1, hlt, by omega, ?_⟩
      refine le_mk ?sle ?mle ?swf ?mwf (kept_not hkeep) (by rfl)
      case swf => repeat (first | exact swf_top _ | refine swf_upd ?_ (by simp [A.ids, upd_app, wrap_succ (show k + 1 < 9223372036854775808 by omega), List.set, hset]))
      case mwf => repeat (first | exact mwf_nil _ | refine mwf_upd ?_ (by simp [A.ids, O.ids, upd_app, wrap_succ (show k + 1 < 9223372036854775808 by omega), List.set, hset]))
      case mle => repeat (first | exact mle_nil _ | exact mle_refl _ | refine mle_upd ?_ (by first | rfl | (simp only [upd_app, killM_app, O.kill, A.kill, Nat.reduceEqDiff, reduceIte, Option.map_some, Option.map_none, List.map_cons, List.map_nil, wrap_succ (show k + 1 < 9223372036854775808 by omega), List.set, hset]; done)))
      case sle => repeat (first | exact sle_top _ | exact sle_refl _ | refine sle_upd ?_ (by first | rfl | (simp only [upd_app, killS_app, A.kill, entry_zero, entry_succ, Nat.reduceEqDiff, reduceIte, wrap_succ (show k + 1 < 9223372036854775808 by omega), List.set, hset]; done)))
    · intro hge
      simp only [decide_eq_false_iff_not, Int.ofNat_lt] at hge
      obtain rfl : k = l.length := by omega
      (repeat (first | refine W.seq ?_ | refine W.block ?_ | refine W.skip ?_ | refine W.exit ?_))
      refine W.regionK tab_ok 0 (by decide) ?_
      refine runk_split 0 (by simp only [exa, beq_self_eq_true, ByteArray.size, Nat.reduceAdd, Nat.reduceLeDiff, Nat.reduceEqDiff, Nat.reduceMul, Int.reduceToNat, reduceIte, Int.reduceLE, Int.reduceNeg]; rfl) ?_
      refine runk_call rfl rfl rfl rfl rfl (by simp) cvs_nil (live_ok _) ?_
      refine runk_split 6 (by simp only [exa, beq_self_eq_true, ByteArray.size, Nat.reduceAdd, Nat.reduceLeDiff, Nat.reduceEqDiff, Nat.reduceMul, Int.reduceToNat, reduceIte, Int.reduceLE, Int.reduceNeg]; rfl) ?_
      refine runk_call rfl rfl rfl rfl rfl (by simp) (cvs_cons (cv_own rfl) (cvs_cons cv_refl cvs_nil)) (hs2 _) ?_
      refine runk_exec (by simp only [exa, beq_self_eq_true, ByteArray.size, Nat.reduceAdd, Nat.reduceLeDiff, Nat.reduceEqDiff, Nat.reduceMul, Int.reduceToNat, reduceIte, Int.reduceLE, Int.reduceNeg]; rfl) ?_
      repeat (first | refine W.seq ?_ | refine W.block ?_ | refine W.skip ?_ | refine W.exit ?_ | refine W.region tab_ok 0 (by decide) (exec_run (by simp only [exa, beq_self_eq_true, ByteArray.size, Nat.reduceAdd, Nat.reduceLeDiff, Nat.reduceEqDiff, Nat.reduceMul, Int.reduceToNat, reduceIte, Int.reduceLE, Int.reduceNeg]; rfl)) ?_)
      refine W.ret ⟨.inr rfl, by rfl, ?_⟩
      simp only [Tryd.f3, resA, resOne, toT, fin, exa, beq_self_eq_true, ByteArray.size, Nat.reduceAdd, Nat.reduceLeDiff, Nat.reduceEqDiff, Nat.reduceMul, Int.reduceToNat, reduceIte, Int.reduceLE, Int.reduceNeg]
end V
end Go.Proofs.YtknmcmfdbfhadaaDoor
end
section
/- GraphChecks: true for every input. Condition: the library's table as its initialiser lays it, which the card ties. -/
set_option linter.unusedVariables false
set_option linter.unusedSimpArgs false
namespace Go.Proofs.YtknmcmfdbfhadaaDoor
open Go.ChangeShapes Go.WideShapes Go.ChangeAt Go.RowKit
open Go.ChangeMaps (open_string shut_string)
open V
theorem graphChecks_met (os : Os) : laidMet Tryd.prog Rows.graphChecksRow.laid ((laidWorld os).forCall (fun _ _ => 0) ⟨#[], #[.int .i64 0, .slice none 0 0], []⟩).memory :=
  laidMet_of_run' 8 (by kernel_rfl) (by kernel_rfl)
theorem graphChecks_reads (os : Os) {H : Type} (enc : TypeId × Value → H) : ∃ places, DataW.whole enc Tryd.prog ((laidWorld os).forCall (fun _ _ => 0) ⟨#[], #[.int .i64 0, .slice none 0 0], []⟩).memory Tryd.f3.params.toList Rows.graphChecksSpec.vars false (#[.int .i64 0, .slice none 0 0] : Array Value).toList 8 = some ([.lit (.int .i64 0), .nil], [], places) :=
  ⟨[], by kernel_rfl⟩
set_option maxRecDepth 100000 in
set_option maxHeartbeats 4000000 in
theorem graphChecks_lifted (os : Os) (started : os.Started) (H : Type) (enc : TypeId × Value → H) (F : Stop.Interp) :
    ReturnsInHanded {} Tryd.checked os 3 .any ((OpenSpec.ofChange Rows.graphChecksSpec).preRow enc Tryd.prog Tryd.f3 Rows.graphChecksRow.domain false Rows.graphChecksRow.laid) (((OpenSpec.ofChange Rows.graphChecksSpec).at F).post enc Tryd.prog Tryd.f3 false true false false) := by
  obtain ⟨places, hx⟩ := graphChecks_reads os enc
  refine returnsInHanded_of_row (C := Tryd.checked) (s := OpenSpec.ofChange Rows.graphChecksSpec) own started (by kernel_rfl) Tryd.func3
    (witness_row_at (enc := enc) (C := Tryd.checked) false (laidWorld os) #[.int .i64 0, .slice none 0 0] rfl (by kernel_rfl) (by kernel_rfl) (by kernel_rfl)
      (OpenSpec.preRow_of_cond 8 hx (by kernel_rfl) (fun k hk => by cases hk) (by kernel_rfl) (graphChecks_met os))) ?_
  intro W base args ds gs before hval0 hW _ _ hsz0 hL hsh _
  have hval : ∀ (j : Nat) t v, Tryd.f3.params[j]? = some t → args[j]? = some v → Value.okWide Tryd.prog W .any base t v := hval0
  have hW' := hW
  obtain ⟨p, q, hA0, hV, rfl, hfz, hnd⟩ := hW
  have hA : DataW.TrodAll enc Tryd.prog W 0 (fun _ => true) true Tryd.f3.params.toList args.toList ds p := hA0
  have hsz : ∀ n ∈ DataW.weightsEach Tryd.prog (Tryd.f3.params.toList ++ Rows.graphChecksSpec.plain.varTypes Tryd.prog) (ds ++ gs), n ≤ reachBytes := fun n hn => of_decide_eq_true (List.all_eq_true.1 hsz0 n hn)
  rw [Tryd.params3] at hA hval hsz
  clear hsz0
  obtain ⟨v0, vs0, d0, ds0, p0, q0, hargs, rfl, rfl, h0, r0⟩ := trodAll_cons hA
  obtain ⟨v1, vs1, d1, ds1, p1, q1, rfl, rfl, rfl, h1, r1⟩ := trodAll_cons r0
  obtain ⟨rfl, rfl, rfl⟩ := trodAll_nil r1
  obtain rfl : args = #[v0, v1] := by cases args; simp_all
  obtain ⟨rfl, rfl⟩ := trodVars_none hV
  clear hA0 hval0
  simp only [List.append_nil] at hW'
  have k0 := h0
  have lt0 : ∀ x ∈ p0, x.block < W.heap.size := by obtain ⟨m, hm⟩ := k0; exact DataW.trod_lt m _ _ _ hm
  have k1 := h1
  have lt1 : ∀ x ∈ p1, x.block < W.heap.size := by obtain ⟨m, hm⟩ := k1; exact DataW.trod_lt m _ _ _ hm
  obtain ⟨z0, rfl⟩ := okWide_int Tryd.underlying3 (hval 0 3 v0 rfl rfl)
  obtain ⟨rn0, h0⟩ := h0
  obtain ⟨ra0, re0, wf0⟩ := read_int h0
  obtain rfl : ra0 = z0 := by simpa [Value.cells] using re0.symm
  have fit1 : Fits Tryd.prog 22 d1 := fun n hn => hsz n (DataW.weights_mem_each (j := 1) rfl rfl n hn)
  obtain ⟨sa1, sn1, sc1, rfl⟩ := okWide_slice Tryd.underlying22 (hval 1 22 v1 rfl rfl)
  obtain ⟨rn1, h1⟩ := h1
  obtain ⟨rv1, l1, re1, R1⟩ := read_edges fit1 h1
  obtain rfl : rv1 = _ := by simpa [Value.cells] using re1.symm
  refine (cok_true (vals := [_, _]) (lawChecks_ok ra0 l1 _) (table hL) (fun B => ⟨rv_int wf0, rv_edges R1, trivial⟩)).mono fun e W' ⟨he, bel⟩ => ?_
  subst he
  exact ⟨_, rfl, _, _, _, [], _, [], hW', trodAll_mk1 (shut_bool Tryd.underlying4 _), trodAll_cons_mk (Below.trod laidOut (by kernel_rfl) (of_decide_eq_true (by kernel_rfl)) k0 bel lt0) (trodAll_cons_mk (Below.trod laidOut (by kernel_rfl) (of_decide_eq_true (by kernel_rfl)) k1 bel lt1) trodAll_mk0), rfl, bel.frame _, fun h => by cases h⟩

theorem graphChecks_holds : Rows.GraphChecksSaid :=
  OpenClaim.holds_of_cond 3 Tryd.f3 rfl rfl rfl rfl rfl rfl rfl ⟨rfl, rfl, rfl, rfl, rfl⟩ rfl rfl rfl rfl rfl (by kernel_rfl) Tryd.func3 (by kernel_rfl)
    (of_decide_eq_true (by kernel_rfl)) (by unfold Func.isWrapper; first | (rw [if_pos (by decide +kernel)]; kernel_rfl) | (rw [if_neg (by decide +kernel)]; exact ⟨rfl, rfl⟩))
    (fun os started H enc _ F => by rw [OpenClaim.pre_eq_preRow]; exact graphChecks_lifted os started H enc F)
theorem graphChecks_plain (f : FuncId) (fn : Func) (hf : Tryd.pinned.checked.prog.funcNamed "mordant/mordantlaw15.GraphChecks" = some f) (hfn : Tryd.pinned.checked.prog.funcs[f]? = some fn) :
    false = Tryd.pinned.checked.prog.looks [] ∧ ∀ (j : Nat) t, fn.params[j]? = some t → Tryd.pinned.checked.prog.wantsStandIn t = false := by
  obtain rfl : f = 3 := Option.some.inj ((show Tryd.prog.funcNamed "mordant/mordantlaw15.GraphChecks" = some 3 by kernel_rfl).symm.trans hf) |>.symm
  obtain rfl : fn = Tryd.f3 := (Option.some.inj (Tryd.func3.symm.trans hfn)).symm
  refine ⟨by kernel_rfl, fun j t ht => ?_⟩
  have hall : Tryd.f3.params.all (fun t => !Tryd.prog.wantsStandIn t) = true := by kernel_rfl
  have := Array.all_eq_true'.1 hall t (Array.mem_of_getElem? ht)
  have h2 : Tryd.prog.wantsStandIn t = false := by simpa using this
  exact h2
theorem graphChecks_card : Rows.GraphChecksCardSaid :=
  Claim7.holds_tied_plain_at .later [] _ _ _ _ graphChecks_holds (fun _ h => by cases h) (by kernel_rfl) (fun _ h => by cases h) graphChecks_row_tie rfl ⟨rfl, rfl⟩ (by kernel_rfl) rfl graphChecks_plain (by kernel_rfl)

end Go.Proofs.YtknmcmfdbfhadaaDoor
end
section
/- GraphMore, GraphShort in plain words; map[int]bool of the call's own as a list of keys. -/
set_option linter.unusedVariables false
set_option linter.unusedSimpArgs false
namespace Go.Proofs.YtknmcmfdbfhadaaDoor
namespace V
open Go.RowKit G
/-- The entries of a map[int]bool in which each key is true. -/
def entsT (L : List Int) : List (A1 × A1) := L.map fun z => (.c (.int .i64 z), .c (.bool true))
theorem entsT_len (L : List Int) : (entsT L).length = L.length := by simp [entsT]
theorem entsT_flat (L : List Int) : (entsT L).flatMap (fun p => p.1.ids ++ p.2.ids) = [] := by
  induction L with
  | nil => rfl
  | cons z l ih => rw [entsT, List.map_cons, List.flatMap_cons]; exact ih
theorem entsT_push (L : List Int) (z : Int) : entsT (L ++ [z]) = entsT L ++ [(.c (.int .i64 z), .c (.bool true))] := by simp [entsT]
theorem findT_none {z : Int} : ∀ {L : List Int}, z ∉ L → findE (.c (.int .i64 z)) (entsT L) = some none
  | [], _ => rfl
  | y :: l, h => by
    simp only [List.mem_cons, not_or] at h
    have ih := findT_none (L := l) h.2
    unfold entsT at ih ⊢
    simp only [List.map_cons, findE, keyEq, if_true, decide_eq_false h.1, ih]
theorem findT_some {z : Int} : ∀ {L : List Int}, z ∈ L → ∃ q, findE (.c (.int .i64 z)) (entsT L) = some (some (q, .c (.bool true)))
  | [], h => by cases h
  | y :: l, h => by
    by_cases e : z = y
    · subst e; exact ⟨0, by simp [entsT, findE, keyEq]⟩
    · obtain ⟨q, ih⟩ := findT_some (L := l) ((List.mem_cons.1 h).resolve_left e)
      refine ⟨q + 1, ?_⟩
      unfold entsT at ih ⊢
      simp only [List.map_cons, findE, keyEq, if_true, decide_eq_false e, ih]
/-! ### Reach -/
theorem reachL_nodup (E : List (Nat × Nat)) (S : List Nat) (N : Nat) : (reachL E S N).Nodup := (List.nodup_range).filter _
theorem mem_reachL {E : List (Nat × Nat)} {S : List Nat} {N j : Nat} : j ∈ reachL E S N ↔ j < N ∧ Rch E S j := by
  simp [reachL, reachB_iff]
theorem cast_nodup {l : List Nat} (h : l.Nodup) : (l.map fun i : Nat => (i : Int)).Nodup := by
  refine List.Pairwise.map _ (fun a b hab e => hab ?_) h
  omega
theorem good_nodes {n : Int} {src : List Int} (h : src.any (badI n) = false) : ∀ s ∈ src, 0 ≤ s ∧ s < n := fun s hs => by
  have := List.any_eq_false.1 h s hs
  simp only [badI, Bool.or_eq_true, decide_eq_true_eq, not_or] at this
  omega
theorem reachR_more (n : Int) (l more : List (Int × Int)) (src : List Int) : ∃ (La Lb : List Int) (e f : Int), reachR n l src = [(false, [.sl (La.map cZ)]), (false, [.int .i64 e])] ∧ reachR n (l ++ more) src = [(false, [.sl (Lb.map cZ)]), (false, [.int .i64 f])] ∧ La.length ≤ 100000 ∧ Lb.length ≤ 100000 ∧ (e ≠ 0 ∨ (e = 0 ∧ f ≠ 0) ∨ (e = 0 ∧ f = 0 ∧ Lb.Nodup ∧ (∀ z ∈ La, z ∈ Lb) ∧ reachR n l La = [(false, [.sl (La.map cZ)]), (false, [.int .i64 0])])) := by
  obtain ⟨La, e, h1, h2⟩ := reachR_shape n l src
  obtain ⟨Lb, f, h3, h4⟩ := reachR_shape n (l ++ more) src
  refine ⟨La, Lb, e, f, h1, h3, h2, h4, ?_⟩
  by_cases he : e ≠ 0
  · exact .inl he
  have he := Decidable.not_not.1 he
  refine .inr ?_
  by_cases hf : f ≠ 0
  · exact .inl ⟨he, hf⟩
  have hf := Decidable.not_not.1 hf
  refine .inr ⟨he, hf, ?_⟩
  subst he hf
  have g1 := h1
  have g3 := h3
  unfold reachR at g1 g3
  by_cases c1 : chkB n l = false
  · rw [if_pos c1] at g1; simp at g1
  rw [if_neg c1] at g1
  by_cases c2 : src.any (badI n) = true
  · rw [if_pos c2] at g1; simp at g1
  rw [if_neg c2] at g1
  by_cases c3 : chkB n (l ++ more) = false
  · rw [if_pos c3] at g3; simp at g3
  rw [if_neg c3, if_neg c2] at g3
  have inj : ∀ {X Y : List Int}, X.map cZ = Y.map cZ → X = Y := fun {X Y} h => by
    have h' := congrArg (List.map fun c : List C => match c with | [.int _ z] => z | _ => 0) h
    simpa [cZ, Function.comp_def] using h'
  simp only [List.cons.injEq, Prod.mk.injEq, C.sl.injEq, true_and, and_true] at g1 g3
  rw [cN_cZ] at g1 g3
  have a1 := inj g1
  have a3 := inj g3
  have hg := good_nodes (by simpa using c2 : src.any (badI n) = false)
  have hc := chk_good (by simpa using c1 : chkB n l = true)
  subst a1 a3
  refine ⟨cast_nodup (reachL_nodup _ _ _), fun z hz => ?_, ?_⟩
  · obtain ⟨j, hj, rfl⟩ := List.mem_map.1 hz
    obtain ⟨hj1, hj2⟩ := mem_reachL.1 hj
    refine List.mem_map.2 ⟨j, mem_reachL.2 ⟨hj1, hj2.mono (fun x hx => ?_) (fun s hs => .here hs)⟩, rfl⟩
    rw [List.map_append]; exact List.mem_append_left _ hx
  · unfold reachR
    rw [if_neg c1, if_neg ?_]
    · rw [cN_cZ]
      have key : ∀ (E : List (Nat × Nat)) (S : List Nat) (N : Nat), (∀ s ∈ S, s < N) → reachL E (reachL E S N) N = reachL E S N := fun E S N hS => by
        unfold reachL
        refine List.filter_congr fun j hj => ?_
        rw [Bool.eq_iff_iff, reachB_iff, reachB_iff]
        constructor
        · exact fun h => h.mono (fun _ h => h) fun s hs => (mem_reachL.1 hs).2
        · exact fun h => h.mono (fun _ h => h) fun s hs => .here (mem_reachL.2 ⟨hS s hs, .here hs⟩)
      conv => lhs; rw [List.map_map (f := fun i : Nat => (i : Int)) (g := Int.toNat)]
      rw [show (Int.toNat ∘ fun i : Nat => (i : Int)) = id by funext i; simp, List.map_id, key]
      intro s hs
      obtain ⟨z, hz, rfl⟩ := List.mem_map.1 hs
      have := hg z hz
      omega
    · simp only [Bool.not_eq_true, List.any_eq_false]
      intro z hz
      obtain ⟨j, hj, rfl⟩ := List.mem_map.1 hz
      have hj1 := (mem_reachL.1 hj).1
      have hn0 := hc.1
      clear hg hc g1 g3 h1 h2 h3 h4 inj
      have hz : badI n (j : Int) = false := by
        unfold badI
        rw [Bool.or_eq_false_iff, decide_eq_false_iff_not, decide_eq_false_iff_not]
        constructor <;> omega
      simp [hz]
/-! ### Path -/
theorem pathN_at {E : List (Nat × Nat)} {t : Nat} : ∀ {k i q x : Nat}, Dst E t i k → (pathN E t k i)[q]? = some x → q ≤ k ∧ Dst E t x (k - q) ∧ (pathN E t k i).drop q = pathN E t (k - q) x
  | 0, i, q, x, h, hx => by
    have e := dst_zero.1 h
    rw [pathN] at hx
    have hq : q = 0 := by
      have := (List.getElem?_eq_some_iff.1 hx).1
      simp at this; omega
    subst hq
    simp at hx
    subst hx e
    exact ⟨Nat.le_refl _, h, rfl⟩
  | k + 1, i, 0, x, h, hx => by
    rw [pathN] at hx
    simp at hx
    subst hx
    exact ⟨Nat.zero_le _, h, rfl⟩
  | k + 1, i, q + 1, x, h, hx => by
    rw [pathN, List.getElem?_cons_succ] at hx
    have hn := nextN_spec h.next
    obtain ⟨a1, a2, a3⟩ := pathN_at hn.1.2 hx
    refine ⟨by omega, by rwa [show k + 1 - (q + 1) = k - q by omega], ?_⟩
    rw [pathN, List.drop_succ_cons, show k + 1 - (q + 1) = k - q by omega]
    exact a3
theorem pathN_nodup {E : List (Nat × Nat)} {t k i : Nat} (h : Dst E t i k) : (pathN E t k i).Nodup := by
  rw [List.Nodup, List.pairwise_iff_getElem]
  intro a b ha hb hab e
  obtain ⟨h1, h2, -⟩ := pathN_at h (List.getElem?_eq_getElem ha)
  obtain ⟨h3, h4, -⟩ := pathN_at h (List.getElem?_eq_getElem hb)
  rw [e] at h2
  have := h2.uniq h4
  omega
theorem dst_lt' {E : List (Nat × Nat)} {n t k i : Nat} (hE : ∀ e ∈ E, e.1 < n ∧ e.2 < n) (ht : t < n) (h : Dst E t i k) : i < n := by
  cases k with
  | zero => have := dst_zero.1 h; omega
  | succ k => obtain ⟨j, hj, -⟩ := h.next; exact (hE _ hj).1
theorem pathR_short (n : Int) (l : List (Int × Int)) (f t : Int) : ∃ (L : List Int) (e : Int), pathR n l f t = [(false, [.sl (L.map cZ)]), (false, [.int .i64 e])] ∧ L.length ≤ 1000000 ∧ ((e ≠ 0 ∧ L = []) ∨ (e = 0 ∧ L ≠ [] ∧ L.Nodup ∧ ∀ i k, L[i]? = some k → pathR n l k t = [(false, [.sl ((L.drop i).map cZ)]), (false, [.int .i64 0])])) := by
  by_cases h1 : chkB n l = false
  · refine ⟨[], 150, by unfold pathR; rw [if_pos h1]; rfl, by simp, .inl ⟨by decide, rfl⟩⟩
  by_cases h2 : (badI n f || badI n t) = true
  · refine ⟨[], 1, by unfold pathR; rw [if_neg h1, if_pos h2]; rfl, by simp, .inl ⟨by decide, rfl⟩⟩
  have h1' : chkB n l = true := by simpa using h1
  obtain ⟨N, E, rfl, rfl, hN, hE, e1, e2, e3⟩ := chk_parts h1'
  have h2' : (badI N f || badI N t) = false := by simpa using h2
  rw [Bool.or_eq_false_iff] at h2'
  obtain ⟨a, rfl, ha, e4⟩ := node_of h2'.1
  obtain ⟨b, rfl, hb, e5⟩ := node_of h2'.2
  have hr : ∀ x : Nat, x < N → pathR N (E.map castE) x b = pathA E b x := fun x hx => by
    unfold pathR
    rw [if_neg h1, if_neg ?_, e2, e5, Int.toNat_natCast]
    simp only [h2'.2, Bool.or_false, badI, Bool.or_eq_true, decide_eq_true_eq, not_or]
    omega
  rw [hr a ha]
  rcases pathA_cases E b a with ⟨K, hK, e⟩ | ⟨-, e⟩
  · rw [e, cN_cZ]
    refine ⟨_, 0, rfl, ?_, .inr ⟨rfl, ?_, cast_nodup (pathN_nodup hK), ?_⟩⟩
    · have := dst_lt hE hb hK
      rw [List.length_map, pathN_len]; omega
    · intro h0
      have := congrArg List.length h0
      rw [List.length_map, pathN_len] at this
      simp at this
    · intro i k hk
      rw [List.getElem?_map] at hk
      obtain ⟨x, hx, rfl⟩ := Option.map_eq_some_iff.1 hk
      obtain ⟨q1, q2, q3⟩ := pathN_at hK hx
      have := dst_lt' hE hb q2
      rw [hr x this, pathA_some q2, ← q3, cN_cZ, List.map_drop]
  · rw [e]; exact ⟨[], 4, rfl, by simp, .inl ⟨by decide, rfl⟩⟩
end V
end Go.Proofs.YtknmcmfdbfhadaaDoor
end
section
/- GraphFits in plain words. -/
set_option linter.unusedVariables false
set_option linter.unusedSimpArgs false
namespace Go.Proofs.YtknmcmfdbfhadaaDoor
namespace V
open Go.RowKit G
theorem rch_path {E : List (Nat × Nat)} {i t : Nat} : Rch E [i] t ↔ ∃ k, G.Way E t i k := way_iff.symm
theorem pathN_steps {E : List (Nat × Nat)} {t k i q x y : Nat} (h : Dst E t i k) (hx : (pathN E t k i)[q]? = some x) (hy : (pathN E t k i)[q + 1]? = some y) : (x, y) ∈ E := by
  obtain ⟨h1, h2, h3⟩ := pathN_at h hx
  have hl := (List.getElem?_eq_some_iff.1 hy).1
  rw [pathN_len] at hl
  obtain ⟨d, hd⟩ : ∃ d, k - q = d + 1 := ⟨k - q - 1, by omega⟩
  rw [hd] at h2 h3
  have hn := (nextN_spec h2.next).1
  have h4 := congrArg (fun l : List Nat => l[1]?) h3
  simp only [List.getElem?_drop] at h4
  rw [hy, pathN, List.getElem?_cons_succ] at h4
  have h5 : (pathN E t d (nextN E t d x))[0]? = some (nextN E t d x) := by cases d <;> rfl
  rw [h5] at h4
  cases h4
  exact hn.1
theorem pathN_first (E : List (Nat × Nat)) (t k i : Nat) : (pathN E t k i)[0]? = some i := by cases k <;> rfl
theorem pathN_last {E : List (Nat × Nat)} {t k i : Nat} (h : Dst E t i k) : (pathN E t k i)[k]? = some t := by
  obtain ⟨x, hx⟩ : ∃ x, (pathN E t k i)[k]? = some x := ⟨_, List.getElem?_eq_getElem (by rw [pathN_len]; omega)⟩
  obtain ⟨h1, h2, h3⟩ := pathN_at h hx
  rw [Nat.sub_self] at h2
  rw [hx, dst_zero.1 h2]
section
variable {N : Nat} {E : List (Nat × Nat)} (hc : chkB N (E.map castE) = true) (hE : ∀ e ∈ E, e.1 < N ∧ e.2 < N) (he : ((E.map castE).map fun e => (e.1.toNat, e.2.toNat)) = E)
theorem not_badI {N a : Nat} (h : a < N) : badI N a = false := by
  unfold badI
  rw [Bool.or_eq_false_iff, decide_eq_false_iff_not, decide_eq_false_iff_not]
  omega
include hc he in
theorem reach_fit {a : Nat} (ha : a < N) : reachR N (E.map castE) [(a : Int)] = [(false, [.sl (((reachL E [a] N).map fun i : Nat => (i : Int)).map cZ)]), (false, [.int .i64 0])] := by
  unfold reachR
  rw [if_neg (by simp [hc]), if_neg (by simp [not_badI ha]), he, cN_cZ]
  rfl
include hc he in
theorem path_fit {a i : Nat} (ha : a < N) (hi : i < N) : pathR N (E.map castE) a i = pathA E i a := by
  unfold pathR
  rw [if_neg (by simp [hc]), if_neg (by simp [not_badI ha, not_badI hi]), he]
  rfl
include hc hE he in
/-- What Path tells of a node. -/
theorem path_tells {a i : Nat} (ha : a < N) (hi : i < N) : ∃ (w : List Int) (h : Int), pathR N (E.map castE) a i = [(false, [.sl (w.map cZ)]), (false, [.int .i64 h])] ∧ w.length ≤ 1000000 ∧ (h = 0 ↔ Rch E [a] i) ∧ (h ≠ 0 → w = []) ∧ (h = 0 → w[0]? = some (a : Int) ∧ w[w.length - 1]? = some (i : Int) ∧ w ≠ []) ∧ ∀ k x y, w[k]? = some x → w[k + 1]? = some y → (x, y) ∈ E.map castE := by
  rw [path_fit hc he ha hi]
  rcases pathA_cases E i a with ⟨K, hK, e⟩ | ⟨hno, e⟩
  · have hlt := dst_lt hE hi hK
    have hN := (chk_good hc).2.1
    rw [e, cN_cZ]
    refine ⟨_, 0, rfl, ?_, ⟨fun _ => rch_path.2 ⟨K, hK.1⟩, fun _ => rfl⟩, fun h => absurd rfl h, fun _ => ⟨?_, ?_, ?_⟩, ?_⟩
    · rw [List.length_map, pathN_len]; omega
    · rw [List.getElem?_map, pathN_first]; rfl
    · rw [List.length_map, pathN_len, Nat.add_sub_cancel, List.getElem?_map, pathN_last hK]; rfl
    · intro h0
      have := congrArg List.length h0
      rw [List.length_map, pathN_len] at this
      simp at this
    · intro k x y hx hy
      rw [List.getElem?_map] at hx hy
      obtain ⟨u, hu, rfl⟩ := Option.map_eq_some_iff.1 hx
      obtain ⟨v, hv, rfl⟩ := Option.map_eq_some_iff.1 hy
      exact List.mem_map.2 ⟨(u, v), pathN_steps hK hu hv, rfl⟩
  · rw [e]
    exact ⟨[], 4, rfl, by simp, ⟨fun h => by simp at h, fun h => absurd (rch_path.1 h) hno⟩, fun _ => rfl, fun h => by simp at h, fun k x y hx => by simp at hx⟩
include hc he in
theorem parts_fit : partsR N (E.map castE) = [(false, [.sl (((List.range N).map fun i => ((partE E i : Nat) : Int)).map cZ)]), (false, [.int .i64 0])] := by
  unfold partsR
  rw [if_neg (by simp [hc]), he, rowZ_cZ]
  rfl
include hc he in
theorem parts_turned : partsR N ((E.map castE).map turnE) = partsR N (E.map castE) := by
  have hc' : chkB N ((E.map castE).map turnE) = true := by
    obtain ⟨h1, h2, h3⟩ := chk_good hc
    simp only [chkB, Bool.not_eq_true', Bool.or_eq_false_iff, decide_eq_false_iff_not, List.any_eq_false]
    refine ⟨⟨by omega, by omega⟩, fun e he => ?_⟩
    obtain ⟨q, hq, rfl⟩ := List.mem_map.1 he
    have h4 := h3 q hq
    clear h3
    have hb : badE N (turnE q) = false := by
      simp only [badE, turnE, Bool.or_eq_false_iff]
      obtain ⟨a1, a2, a3, a4⟩ := h4
      exact ⟨⟨⟨decide_eq_false (by omega), decide_eq_false (by omega)⟩, decide_eq_false (by omega)⟩, decide_eq_false (by omega)⟩
    simp [hb]
  have he' : (((E.map castE).map turnE).map fun e => (e.1.toNat, e.2.toNat)) = E.map fun e => (e.2, e.1) := by
    simp [castE, turnE, Function.comp_def]
  unfold partsR
  have n1 : ¬ (chkB N (E.map castE) = false) := fun h => by rw [hc] at h; cases h
  have n2 : ¬ (chkB N ((E.map castE).map turnE) = false) := fun h => by rw [hc'] at h; cases h
  rw [if_neg n1, if_neg n2, he, he']
  have : rowZ (N : Int).toNat (fun i => ((partE (E.map fun e => (e.2, e.1)) i : Nat) : Int)) = rowZ (N : Int).toNat fun i => ((partE E i : Nat) : Int) := by
    refine rowZ_congr fun i hi => ?_
    congr 1
    refine partE_of (n := i + 1) (fun x y _ _ => keyE_iff.trans (mut_rev fun u v => ?_)) (by omega)
    simp only [List.mem_map, Prod.mk.injEq, Prod.exists]
    constructor
    · rintro ⟨p, q, h, rfl, rfl⟩; exact h
    · intro h; exact ⟨_, _, h, rfl, rfl⟩
  rw [this]
end
theorem part_same {E : List (Nat × Nat)} {a i : Nat} : partE E i = partE E a ↔ Rch E [a] i ∧ Rch E [i] a := partE_iff.trans ⟨fun h => ⟨h.2, h.1⟩, fun h => ⟨h.2, h.1⟩⟩
/-- The start, put into the graph. -/
theorem norm_from (N : Nat) (f : Int) (h1 : 1 ≤ N) (h2 : N ≤ 40) : ∃ a : Nat, IntKind.i64.wrap (Int.tmod f N + N) = Int.tmod f N + N ∧ Int.tmod (Int.tmod f N + N) N = (a : Int) ∧ a < N := by
  have q1 := Int.tmod_lt_of_pos f (show (0 : Int) < N by omega)
  have q2 : -(N : Int) < Int.tmod f N := by
    have h := Int.tmod_lt_of_pos (-f) (show (0 : Int) < N by omega)
    rw [Int.neg_tmod] at h
    omega
  generalize Int.tmod f N = r at *
  have q3 : Int.tmod (r + N) N = (r + N) % N := Int.tmod_eq_emod_of_nonneg (by omega)
  have q4 := Int.emod_nonneg (r + N) (show (N : Int) ≠ 0 by omega)
  have q5 := Int.emod_lt_of_pos (r + N) (show (0 : Int) < N by omega)
  refine ⟨((r + N) % N).toNat, ?_, ?_, by omega⟩
  · have := wrap_nat (k := (r + N).toNat) (by omega)
    rwa [show (((r + N).toNat : Nat) : Int) = r + N by omega] at this
  · rw [q3]; omega
end V
end Go.Proofs.YtknmcmfdbfhadaaDoor
end
section
/- GraphFits: true for every input. -/
set_option linter.unusedVariables false
set_option linter.unusedSimpArgs false
namespace Go.Proofs.YtknmcmfdbfhadaaDoor
namespace V
open Go.RowKit G
/-- The entries of a map[api.Edge]bool in which each key is true. -/
def entsQ (L : List (Int × Int)) : List (A1 × A1) := L.map fun e => (.agg (cE e), .c (.bool true))
theorem agg_ids (xs : List C) : (A1.agg xs).ids = [] := rfl
theorem entsQ_flat (L : List (Int × Int)) : (entsQ L).flatMap (fun p => p.1.ids ++ p.2.ids) = [] := by
  induction L with
  | nil => rfl
  | cons z l ih => rw [entsQ, List.map_cons, List.flatMap_cons]; exact ih
theorem entsQ_push (L : List (Int × Int)) (z : Int × Int) : entsQ (L ++ [z]) = entsQ L ++ [(.agg (cE z), .c (.bool true))] := by simp [entsQ]
theorem keyE_edge (x y : Int × Int) : keyEq (.agg (cE x)) (.agg (cE y)) = some (decide (x = y)) := by
  obtain ⟨a, b⟩ := x
  obtain ⟨c, d⟩ := y
  simp [keyEq, eqC0s, eqC0, cE, Prod.mk.injEq]
theorem findQ_none {z : Int × Int} : ∀ {L : List (Int × Int)}, z ∉ L → findE (.agg (cE z)) (entsQ L) = some none
  | [], _ => rfl
  | y :: l, h => by
    simp only [List.mem_cons, not_or] at h
    have ih := findQ_none (L := l) h.2
    unfold entsQ at ih ⊢
    simp only [List.map_cons, findE, keyE_edge, decide_eq_false h.1, ih]
theorem findQ_some {z : Int × Int} : ∀ {L : List (Int × Int)}, z ∈ L → ∃ q, findE (.agg (cE z)) (entsQ L) = some (some (q, .c (.bool true))) ∧ L[q]? = some z
  | [], h => by cases h
  | y :: l, h => by
    by_cases e : z = y
    · subst e; exact ⟨0, by simp [entsQ, findE, keyE_edge], rfl⟩
    · obtain ⟨q, ih, hq⟩ := findQ_some (L := l) ((List.mem_cons.1 h).resolve_left e)
      refine ⟨q + 1, ?_, by simpa using hq⟩
      unfold entsQ at ih ⊢
      simp only [List.map_cons, findE, keyE_edge, decide_eq_false e, ih]
theorem putQ_same {z : Int × Int} {L : List (Int × Int)} {q : Nat} {v : A1} (h : L[q]? = some z) : putE (.agg (cE z)) (.c (.bool true)) (entsQ L) (some (q, v)) = entsQ L := by
  have hq := (List.getElem?_eq_some_iff.1 h).1
  show (entsQ L).set q _ = entsQ L
  refine List.ext_getElem? fun i => ?_
  rw [List.getElem?_set]
  split
  · rename_i e
    subst e
    rw [if_pos (by simpa [entsQ] using hq), entsQ, List.getElem?_map, h]
    rfl
  · rfl
set_option maxHeartbeats 8000000 in
theorem lawFits_ok (n : Int) (l : List (Int × Int)) (f : Int) (m : Mem) : COk Tryd.prog 7 [.c (.int .i64 n), .c (.sl (l.map cE)), .c (.int .i64 f)] m (.c (.bool true)) := by
  refine (ok_pure tab_ok Tryd.func7 (by kernel_rfl) rfl rfl (by rfl) (by rfl) (by rfl) (fun R hkeep => ?_) m)
  repeat (first | refine W.seq ?_ | refine W.block ?_ | refine W.skip ?_ | refine W.exit ?_ | refine W.region tab_ok 0 (by decide) (exec_run (by simp only [exa, beq_self_eq_true, ByteArray.size, Nat.reduceAdd, Nat.reduceLeDiff, Nat.reduceEqDiff, Nat.reduceMul, Int.reduceToNat, reduceIte, Int.reduceLE, Int.reduceNeg]; rfl)) ?_)
  refine W.regionK tab_ok 0 (by decide) ?_
  refine runk_split 0 (by simp only [exa, beq_self_eq_true, ByteArray.size, Nat.reduceAdd, Nat.reduceLeDiff, Nat.reduceEqDiff, Nat.reduceMul, Int.reduceToNat, reduceIte, Int.reduceLE, Int.reduceNeg]; rfl) ?_
  refine runk_call rfl rfl rfl rfl rfl (by simp) cvs_nil (live_ok _) ?_
  refine runk_exec (by simp only [exa, beq_self_eq_true, ByteArray.size, Nat.reduceAdd, Nat.reduceLeDiff, Nat.reduceEqDiff, Nat.reduceMul, Int.reduceToNat, reduceIte, Int.reduceLE, Int.reduceNeg]; rfl) ?_
  (repeat (first | refine W.seq ?_ | refine W.block ?_ | refine W.skip ?_ | refine W.exit ?_))
  by_cases h1 : 40 < n
  · skip
    (repeat (first | refine W.seq ?_ | refine W.block ?_ | refine W.skip ?_ | refine W.exit ?_))
    refine W.region tab_ok 0 (by decide) (exec_run (by simp only [exa, beq_self_eq_true, ByteArray.size, Nat.reduceAdd, Nat.reduceLeDiff, Nat.reduceEqDiff, Nat.reduceMul, Int.reduceToNat, reduceIte, Int.reduceLE, Int.reduceNeg, h1]; rfl)) ?_
    (repeat (first | refine W.seq ?_ | refine W.block ?_ | refine W.skip ?_ | refine W.exit ?_))
    refine W.cond rfl ?_ ?_
    · intro _
      repeat (first | refine W.seq ?_ | refine W.block ?_ | refine W.skip ?_ | refine W.exit ?_ | refine W.region tab_ok 0 (by decide) (exec_run (by simp only [exa, beq_self_eq_true, ByteArray.size, Nat.reduceAdd, Nat.reduceLeDiff, Nat.reduceEqDiff, Nat.reduceMul, Int.reduceToNat, reduceIte, Int.reduceLE, Int.reduceNeg]; rfl)) ?_)
      refine W.ret ⟨.inr rfl, by rfl, ?_⟩
      simp only [Tryd.f7, resA, resOne, toT, fin, exa, beq_self_eq_true, ByteArray.size, Nat.reduceAdd, Nat.reduceLeDiff, Nat.reduceEqDiff, Nat.reduceMul, Int.reduceToNat, reduceIte, Int.reduceLE, Int.reduceNeg]
    · intro h; cases h
  by_cases h2 : n < 1
  · skip
    (repeat (first | refine W.seq ?_ | refine W.block ?_ | refine W.skip ?_ | refine W.exit ?_))
    refine W.region tab_ok 0 (by decide) (exec_run (by simp only [exa, beq_self_eq_true, ByteArray.size, Nat.reduceAdd, Nat.reduceLeDiff, Nat.reduceEqDiff, Nat.reduceMul, Int.reduceToNat, reduceIte, Int.reduceLE, Int.reduceNeg, h1, h2]; rfl)) ?_
    (repeat (first | refine W.seq ?_ | refine W.block ?_ | refine W.skip ?_ | refine W.exit ?_))
    refine W.cond rfl ?_ ?_
    · intro _
      repeat (first | refine W.seq ?_ | refine W.block ?_ | refine W.skip ?_ | refine W.exit ?_ | refine W.region tab_ok 0 (by decide) (exec_run (by simp only [exa, beq_self_eq_true, ByteArray.size, Nat.reduceAdd, Nat.reduceLeDiff, Nat.reduceEqDiff, Nat.reduceMul, Int.reduceToNat, reduceIte, Int.reduceLE, Int.reduceNeg]; rfl)) ?_)
      refine W.ret ⟨.inr rfl, by rfl, ?_⟩
      simp only [Tryd.f7, resA, resOne, toT, fin, exa, beq_self_eq_true, ByteArray.size, Nat.reduceAdd, Nat.reduceLeDiff, Nat.reduceEqDiff, Nat.reduceMul, Int.reduceToNat, reduceIte, Int.reduceLE, Int.reduceNeg]
    · intro h; cases h
  by_cases h3 : (200 : Int) < (l.length : Int)
  · skip
    (repeat (first | refine W.seq ?_ | refine W.block ?_ | refine W.skip ?_ | refine W.exit ?_))
    refine W.region tab_ok 0 (by decide) (exec_run (by simp only [exa, beq_self_eq_true, ByteArray.size, Nat.reduceAdd, Nat.reduceLeDiff, Nat.reduceEqDiff, Nat.reduceMul, Int.reduceToNat, reduceIte, Int.reduceLE, Int.reduceNeg, h1, h2, h3]; rfl)) ?_
    (repeat (first | refine W.seq ?_ | refine W.block ?_ | refine W.skip ?_ | refine W.exit ?_))
    refine W.cond rfl ?_ ?_
    · intro _
      repeat (first | refine W.seq ?_ | refine W.block ?_ | refine W.skip ?_ | refine W.exit ?_ | refine W.region tab_ok 0 (by decide) (exec_run (by simp only [exa, beq_self_eq_true, ByteArray.size, Nat.reduceAdd, Nat.reduceLeDiff, Nat.reduceEqDiff, Nat.reduceMul, Int.reduceToNat, reduceIte, Int.reduceLE, Int.reduceNeg]; rfl)) ?_)
      refine W.ret ⟨.inr rfl, by rfl, ?_⟩
      simp only [Tryd.f7, resA, resOne, toT, fin, exa, beq_self_eq_true, ByteArray.size, Nat.reduceAdd, Nat.reduceLeDiff, Nat.reduceEqDiff, Nat.reduceMul, Int.reduceToNat, reduceIte, Int.reduceLE, Int.reduceNeg]
    · intro h; cases h
  have hk := check_ok n l (by omega)
  cases hc : chkB n l with
  | false =>
    rw [hc] at hk
    refine W.regionK tab_ok 0 (by decide) ?_
    refine runk_split 14 (by simp only [exa, beq_self_eq_true, ByteArray.size, Nat.reduceAdd, Nat.reduceLeDiff, Nat.reduceEqDiff, Nat.reduceMul, Int.reduceToNat, reduceIte, Int.reduceLE, Int.reduceNeg, h1, h2, h3]; rfl) ?_
    refine runk_call rfl rfl rfl rfl rfl (by simp) (cvs_cons cv_refl (cvs_cons cv_refl cvs_nil)) (hk _) ?_
    refine runk_exec (by simp only [exa, beq_self_eq_true, ByteArray.size, Nat.reduceAdd, Nat.reduceLeDiff, Nat.reduceEqDiff, Nat.reduceMul, Int.reduceToNat, reduceIte, Int.reduceLE, Int.reduceNeg, errG, Bool.false_eq_true]; rfl) ?_
    refine W.cond rfl ?_ ?_
    · intro _
      repeat (first | refine W.seq ?_ | refine W.block ?_ | refine W.skip ?_ | refine W.exit ?_ | refine W.region tab_ok 0 (by decide) (exec_run (by simp only [exa, beq_self_eq_true, ByteArray.size, Nat.reduceAdd, Nat.reduceLeDiff, Nat.reduceEqDiff, Nat.reduceMul, Int.reduceToNat, reduceIte, Int.reduceLE, Int.reduceNeg]; rfl)) ?_)
      refine W.ret ⟨.inr rfl, by rfl, ?_⟩
      simp only [Tryd.f7, resA, resOne, toT, fin, exa, beq_self_eq_true, ByteArray.size, Nat.reduceAdd, Nat.reduceLeDiff, Nat.reduceEqDiff, Nat.reduceMul, Int.reduceToNat, reduceIte, Int.reduceLE, Int.reduceNeg]
    · intro h; cases h
  | true =>
  rw [hc] at hk
  obtain ⟨N, E, rfl, hlE, hN, hE, e1, e2, e3⟩ := chk_parts hc
  have hN1 : 1 ≤ N := by omega
  have hN2 : N ≤ 40 := by omega
  obtain ⟨a, ha1, ha2, ha⟩ := norm_from N f hN1 hN2
  rw [hlE] at hc e2
  have hR := reach_fit hc e2 ha
  have hP := parts_fit hc e2
  have hQ := parts_turned hc e2
  have hpt : ∀ {i j : Nat}, i < N → j < N → _ := fun {i j} hi hj => path_tells hc hE e2 (a := i) (i := j) hi hj
  have hmem : ∀ i : Nat, (i : Int) ∈ ((reachL E [a] N).map fun i : Nat => (i : Int)) ↔ i < N ∧ Rch E [a] i := fun i => by
    rw [← mem_reachL, List.mem_map]
    constructor
    · rintro ⟨j, hj, e⟩
      obtain rfl : j = i := by omega
      exact hj
    · intro h; exact ⟨i, h, rfl⟩
  have hnd := cast_nodup (reachL_nodup E [a] N)
  have hPl : ((List.range N).map fun i => ((partE E i : Nat) : Int)).length = N := by simp
  have hPa : ∀ i, i < N → ((List.range N).map fun i => ((partE E i : Nat) : Int))[i]? = some ((partE E i : Nat) : Int) := fun i hi => by simp [hi]
  have hRl : ((reachL E [a] N).map fun i : Nat => (i : Int)).length ≤ N := by
    rw [List.length_map]; unfold reachL
    exact Nat.le_trans (List.length_filter_le _ _) (by rw [List.length_range]; exact Nat.le_refl _)
  rw [hP] at hQ
  rw [← hlE] at hR hP hQ hpt
  generalize ((reachL E [a] N).map fun i : Nat => (i : Int)) = R at *
  generalize ((List.range N).map fun i => ((partE E i : Nat) : Int)) = P at *
  have k1 := reach_ok N l (by omega) [(a : Int)] (by simp)
  have k2 := parts_ok N l (by omega)
  have k3 := parts_ok N (l.map turnE) (by rw [List.length_map]; omega)
  rw [hR] at k1
  rw [hP] at k2
  rw [hQ] at k3
  have k4 := same_ok P (by omega)
  have hN0 : ¬ ((N : Int) = 0) := by omega
  refine W.regionK tab_ok 0 (by decide) ?_
  refine runk_split 14 (by simp only [exa, beq_self_eq_true, ByteArray.size, Nat.reduceAdd, Nat.reduceLeDiff, Nat.reduceEqDiff, Nat.reduceMul, Int.reduceToNat, reduceIte, Int.reduceLE, Int.reduceNeg, h1, h2, h3]; rfl) ?_
  refine runk_call rfl rfl rfl rfl rfl (by simp) (cvs_cons cv_refl (cvs_cons cv_refl cvs_nil)) (hk _) ?_
  refine runk_exec (by simp only [exa, beq_self_eq_true, ByteArray.size, Nat.reduceAdd, Nat.reduceLeDiff, Nat.reduceEqDiff, Nat.reduceMul, Int.reduceToNat, reduceIte, Int.reduceLE, Int.reduceNeg, errG]; rfl) ?_
  refine W.cond rfl ?_ ?_
  · intro h; cases h
  intro _
  (repeat (first | refine W.seq ?_ | refine W.block ?_ | refine W.skip ?_ | refine W.exit ?_))
  (repeat (first | refine W.seq ?_ | refine W.block ?_ | refine W.skip ?_ | refine W.exit ?_))
  refine W.region tab_ok 0 (by decide) (exec_run (by simp only [exa, beq_self_eq_true, ByteArray.size, Nat.reduceAdd, Nat.reduceLeDiff, Nat.reduceEqDiff, Nat.reduceMul, Int.reduceToNat, reduceIte, Int.reduceLE, Int.reduceNeg, hN0, ha1, ha2]; rfl)) ?_
  (repeat (first | refine W.seq ?_ | refine W.block ?_ | refine W.skip ?_ | refine W.exit ?_))
  refine W.regionK tab_ok 0 (by decide) ?_
  refine runk_split 4 (by simp only [exa, beq_self_eq_true, ByteArray.size, Nat.reduceAdd, Nat.reduceLeDiff, Nat.reduceEqDiff, Nat.reduceMul, Int.reduceToNat, reduceIte, Int.reduceLE, Int.reduceNeg]; rfl) ?_
  refine runk_call rfl rfl rfl rfl rfl (by simp) (cvs_cons cv_refl (cvs_cons cv_refl (cvs_cons cv_refl cvs_nil))) (k1 _) ?_
  refine runk_exec (by simp only [exa, beq_self_eq_true, ByteArray.size, Nat.reduceAdd, Nat.reduceLeDiff, Nat.reduceEqDiff, Nat.reduceMul, Int.reduceToNat, reduceIte, Int.reduceLE, Int.reduceNeg]; rfl) ?_
  (repeat (first | refine W.seq ?_ | refine W.block ?_ | refine W.skip ?_ | refine W.exit ?_))
  refine W.regionK tab_ok 0 (by decide) ?_
  refine runk_split 2 (by simp only [exa, beq_self_eq_true, ByteArray.size, Nat.reduceAdd, Nat.reduceLeDiff, Nat.reduceEqDiff, Nat.reduceMul, Int.reduceToNat, reduceIte, Int.reduceLE, Int.reduceNeg]; rfl) ?_
  refine runk_call rfl rfl rfl rfl rfl (by simp) (cvs_cons cv_refl (cvs_cons cv_refl cvs_nil)) (k2 _) ?_
  refine runk_exec (by simp only [exa, beq_self_eq_true, ByteArray.size, Nat.reduceAdd, Nat.reduceLeDiff, Nat.reduceEqDiff, Nat.reduceMul, Int.reduceToNat, reduceIte, Int.reduceLE, Int.reduceNeg]; rfl) ?_
  (repeat (first | refine W.seq ?_ | refine W.block ?_ | refine W.skip ?_ | refine W.exit ?_))
  refine W.regionK tab_ok 0 (by decide) ?_
  refine runk_split 2 (by simp only [exa, beq_self_eq_true, ByteArray.size, Nat.reduceAdd, Nat.reduceLeDiff, Nat.reduceEqDiff, Nat.reduceMul, Int.reduceToNat, reduceIte, Int.reduceLE, Int.reduceNeg]; rfl) ?_
  refine runk_call rfl rfl rfl rfl rfl (by simp) (cvs_cons cv_refl cvs_nil) (turn_ok l (by omega) _) ?_
  refine runk_split 0 (by simp only [exa, beq_self_eq_true, ByteArray.size, Nat.reduceAdd, Nat.reduceLeDiff, Nat.reduceEqDiff, Nat.reduceMul, Int.reduceToNat, reduceIte, Int.reduceLE, Int.reduceNeg]; rfl) ?_
  refine runk_call rfl rfl rfl rfl rfl (by simp) (cvs_cons cv_refl (cvs_cons cv_refl cvs_nil)) (k3 _) ?_
  refine runk_exec (by simp only [exa, beq_self_eq_true, ByteArray.size, Nat.reduceAdd, Nat.reduceLeDiff, Nat.reduceEqDiff, Nat.reduceMul, Int.reduceToNat, reduceIte, Int.reduceLE, Int.reduceNeg]; rfl) ?_
  (repeat (first | refine W.seq ?_ | refine W.block ?_ | refine W.skip ?_ | refine W.exit ?_))
  refine W.regionK tab_ok 0 (by decide) ?_
  refine runk_split 19 (by simp only [exa, beq_self_eq_true, ByteArray.size, Nat.reduceAdd, Nat.reduceLeDiff, Nat.reduceEqDiff, Nat.reduceMul, Int.reduceToNat, reduceIte, Int.reduceLE, Int.reduceNeg, List.length_map, hPl, eq_self]; rfl) ?_
  refine runk_call rfl rfl rfl rfl rfl (by simp) (cvs_cons cv_refl (cvs_cons cv_refl cvs_nil)) (k4 _) ?_
  refine runk_exec (by simp only [exa, beq_self_eq_true, ByteArray.size, Nat.reduceAdd, Nat.reduceLeDiff, Nat.reduceEqDiff, Nat.reduceMul, Int.reduceToNat, reduceIte, Int.reduceLE, Int.reduceNeg]; rfl) ?_
  refine W.cond rfl ?_ ?_
  · intro h; cases h
  intro _
  repeat (first | refine W.seq ?_ | refine W.block ?_ | refine W.skip ?_ | refine W.exit ?_ | refine W.region tab_ok 0 (by decide) (exec_run (by simp only [exa, beq_self_eq_true, ByteArray.size, Nat.reduceAdd, Nat.reduceLeDiff, Nat.reduceEqDiff, Nat.reduceMul, Int.reduceToNat, reduceIte, Int.reduceLE, Int.reduceNeg]; rfl)) ?_)
  refine W.loop (ι := Nat × List (Int × Int)) (fun x => ⟨upd (upd (upd (upd (upd (upd (upd (upd (upd (upd (fun _ => .top) 0 (.c (.int .i64 N))) 1 (.c (.sl (l.map cE)))) 2 (.c (.int .i64 a))) 7 (.c (.bool true))) 8 (.c (.sl (R.map cZ)))) 10 (.c (.sl (P.map cZ)))) 14 (.map 95)) 96 (.c (.sl (l.map cE)))) 97 (.c (.int .i64 l.length))) 98 (.c (.int .i64 x.1)),
      upd Mem.nil 95 (some (.map (entsQ x.2)))⟩) (fun x => x.1 ≤ l.length ∧ ∀ e, e ∈ x.2 ↔ e ∈ l.take x.1) (fun x => l.length - x.1) (0, []) ?start ⟨Nat.zero_le _, fun e => by simp⟩ ?round
  case start =>
    refine le_mk ?sle ?mle ?swf ?mwf (kept_not hkeep) (by rfl)
    case swf => repeat (first | exact swf_top _ | refine swf_upd ?_ (by simp [A.ids, upd_app, entsQ, List.map_nil]))
    case mwf => repeat (first | exact mwf_nil _ | refine mwf_upd ?_ (by simp [A.ids, O.ids, upd_app, entsQ, List.map_nil]))
    case mle => repeat (first | exact mle_nil _ | exact mle_refl _ | refine mle_upd ?_ (by first | rfl | (simp only [upd_app, killM_app, O.kill, A.kill, Nat.reduceEqDiff, reduceIte, Option.map_some, Option.map_none, List.map_cons, List.map_nil, entsQ, List.map_nil]; done)))
    case sle => repeat (first | exact sle_top _ | exact sle_refl _ | refine sle_upd ?_ (by first | rfl | (simp only [upd_app, killS_app, A.kill, entry_zero, entry_succ, Nat.reduceEqDiff, reduceIte, entsQ, List.map_nil]; done)))
  case round =>
    rintro ⟨k, S⟩ ⟨hk, hS⟩
    simp only at hk hS
    repeat (first | refine W.seq ?_ | refine W.block ?_ | refine W.skip ?_ | refine W.exit ?_ | refine W.region tab_ok 0 (by decide) (exec_run (by simp only [exa, beq_self_eq_true, ByteArray.size, Nat.reduceAdd, Nat.reduceLeDiff, Nat.reduceEqDiff, Nat.reduceMul, Int.reduceToNat, reduceIte, Int.reduceLE, Int.reduceNeg]; rfl)) ?_)
    refine W.cond rfl ?_ ?_
    · intro hlt
      simp only [decide_eq_true_eq, Int.ofNat_lt] at hlt
      obtain ⟨z, hz⟩ : ∃ z, l[k]? = some z := ⟨_, List.getElem?_eq_getElem hlt⟩
      have htk : l.take (k + 1) = l.take k ++ [z] := by rw [List.take_add_one, hz]; rfl
      have hcz : cE z = [.int .i64 z.1, .int .i64 z.2] := rfl
      by_cases hin : z ∈ S
      · obtain ⟨q, hfind, hq⟩ := findQ_some hin
        have hput := putQ_same (v := .c (.bool true)) hq
        rw [hcz] at hfind hput
        (repeat (first | refine W.seq ?_ | refine W.block ?_ | refine W.skip ?_ | refine W.exit ?_))
        refine W.region tab_ok 0 (by decide) (exec_run (by simp only [exa, beq_self_eq_true, ByteArray.size, Nat.reduceAdd, Nat.reduceLeDiff, Nat.reduceEqDiff, Nat.reduceMul, Int.reduceToNat, reduceIte, Int.reduceLE, Int.reduceNeg, at_map hz, hcz]; rfl)) ?_
        (repeat (first | refine W.seq ?_ | refine W.block ?_ | refine W.skip ?_ | refine W.exit ?_))
        refine W.regionK tab_ok 0 (by decide) ?_
        refine runk_split 2 (by simp only [exa, beq_self_eq_true, ByteArray.size, Nat.reduceAdd, Nat.reduceLeDiff, Nat.reduceEqDiff, Nat.reduceMul, Int.reduceToNat, reduceIte, Int.reduceLE, Int.reduceNeg]; rfl) ?_
        refine runk_put tab_ok (ents := (entsQ S)) rfl (.inl rfl) rfl rfl (by first | rfl | (simp only [exa, beq_self_eq_true, ByteArray.size, Nat.reduceAdd, Nat.reduceLeDiff, Nat.reduceEqDiff, Nat.reduceMul, Int.reduceToNat, reduceIte, Int.reduceLE, Int.reduceNeg]; done)) rfl (by first | rfl | (simp only [exa, beq_self_eq_true, ByteArray.size, Nat.reduceAdd, Nat.reduceLeDiff, Nat.reduceEqDiff, Nat.reduceMul, Int.reduceToNat, reduceIte, Int.reduceLE, Int.reduceNeg]; rfl)) (by rfl) (by first | rfl | (simp only [exa, beq_self_eq_true, ByteArray.size, Nat.reduceAdd, Nat.reduceLeDiff, Nat.reduceEqDiff, Nat.reduceMul, Int.reduceToNat, reduceIte, Int.reduceLE, Int.reduceNeg]; rfl)) hfind ?_
        refine runk_exec (by simp only [exa, beq_self_eq_true, ByteArray.size, Nat.reduceAdd, Nat.reduceLeDiff, Nat.reduceEqDiff, Nat.reduceMul, Int.reduceToNat, reduceIte, Int.reduceLE, Int.reduceNeg]; rfl) ?_
        repeat (first | refine W.seq ?_ | refine W.block ?_ | refine W.skip ?_ | refine W.exit ?_ | refine W.region tab_ok 0 (by decide) (exec_run (by simp only [exa, beq_self_eq_true, ByteArray.size, Nat.reduceAdd, Nat.reduceLeDiff, Nat.reduceEqDiff, Nat.reduceMul, Int.reduceToNat, reduceIte, Int.reduceLE, Int.reduceNeg]; rfl)) ?_)
        refine ⟨(k + 1, S), ⟨hlt, fun e => ?_⟩, by simp only; omega, ?_⟩
        · rw [htk, hS, List.mem_append, List.mem_singleton]
          exact ⟨.inl, fun h => h.elim id fun h => by subst h; exact (hS _).1 hin⟩
        refine le_mk ?sle ?mle ?swf ?mwf (kept_not hkeep) (by rfl)
        case swf => repeat (first | exact swf_top _ | refine swf_upd ?_ (by simp [A.ids, upd_app, entsQ_flat, hput, wrap_succ (show k + 1 < 9223372036854775808 by omega)]))
        case mwf => repeat (first | exact mwf_nil _ | refine mwf_upd ?_ (by simp [A.ids, O.ids, upd_app, entsQ_flat, hput, wrap_succ (show k + 1 < 9223372036854775808 by omega)]))
        case mle => repeat (first | exact mle_nil _ | exact mle_refl _ | refine mle_upd ?_ (by first | rfl | (simp only [upd_app, killM_app, O.kill, A.kill, Nat.reduceEqDiff, reduceIte, Option.map_some, Option.map_none, List.map_cons, List.map_nil, entsQ_flat, hput, wrap_succ (show k + 1 < 9223372036854775808 by omega)]; done)))
        case sle => repeat (first | exact sle_top _ | exact sle_refl _ | refine sle_upd ?_ (by first | rfl | (simp only [upd_app, killS_app, A.kill, entry_zero, entry_succ, Nat.reduceEqDiff, reduceIte, entsQ_flat, hput, wrap_succ (show k + 1 < 9223372036854775808 by omega)]; done)))
      · have hfind := findQ_none hin
        rw [hcz] at hfind
        (repeat (first | refine W.seq ?_ | refine W.block ?_ | refine W.skip ?_ | refine W.exit ?_))
        refine W.region tab_ok 0 (by decide) (exec_run (by simp only [exa, beq_self_eq_true, ByteArray.size, Nat.reduceAdd, Nat.reduceLeDiff, Nat.reduceEqDiff, Nat.reduceMul, Int.reduceToNat, reduceIte, Int.reduceLE, Int.reduceNeg, at_map hz, hcz]; rfl)) ?_
        (repeat (first | refine W.seq ?_ | refine W.block ?_ | refine W.skip ?_ | refine W.exit ?_))
        refine W.regionK tab_ok 0 (by decide) ?_
        refine runk_split 2 (by simp only [exa, beq_self_eq_true, ByteArray.size, Nat.reduceAdd, Nat.reduceLeDiff, Nat.reduceEqDiff, Nat.reduceMul, Int.reduceToNat, reduceIte, Int.reduceLE, Int.reduceNeg]; rfl) ?_
        refine runk_put tab_ok (ents := (entsQ S)) rfl (.inl rfl) rfl rfl (by first | rfl | (simp only [exa, beq_self_eq_true, ByteArray.size, Nat.reduceAdd, Nat.reduceLeDiff, Nat.reduceEqDiff, Nat.reduceMul, Int.reduceToNat, reduceIte, Int.reduceLE, Int.reduceNeg]; done)) rfl (by first | rfl | (simp only [exa, beq_self_eq_true, ByteArray.size, Nat.reduceAdd, Nat.reduceLeDiff, Nat.reduceEqDiff, Nat.reduceMul, Int.reduceToNat, reduceIte, Int.reduceLE, Int.reduceNeg]; rfl)) (by rfl) (by first | rfl | (simp only [exa, beq_self_eq_true, ByteArray.size, Nat.reduceAdd, Nat.reduceLeDiff, Nat.reduceEqDiff, Nat.reduceMul, Int.reduceToNat, reduceIte, Int.reduceLE, Int.reduceNeg]; rfl)) hfind ?_
        refine runk_exec (by simp only [exa, beq_self_eq_true, ByteArray.size, Nat.reduceAdd, Nat.reduceLeDiff, Nat.reduceEqDiff, Nat.reduceMul, Int.reduceToNat, reduceIte, Int.reduceLE, Int.reduceNeg]; rfl) ?_
        repeat (first | refine W.seq ?_ | refine W.block ?_ | refine W.skip ?_ | refine W.exit ?_ | refine W.region tab_ok 0 (by decide) (exec_run (by simp only [exa, beq_self_eq_true, ByteArray.size, Nat.reduceAdd, Nat.reduceLeDiff, Nat.reduceEqDiff, Nat.reduceMul, Int.reduceToNat, reduceIte, Int.reduceLE, Int.reduceNeg]; rfl)) ?_)
        refine ⟨(k + 1, S ++ [z]), ⟨hlt, fun e => ?_⟩, by simp only; omega, ?_⟩
        · simp only
          rw [htk, List.mem_append, List.mem_append, hS]
        simp only [entsQ_push]
        rw [hcz]
        refine le_mk ?sle ?mle ?swf ?mwf (kept_not hkeep) (by rfl)
        case swf => repeat (first | exact swf_top _ | refine swf_upd ?_ (by simp [A.ids, upd_app, entsQ_flat, putE, List.flatMap_append, c_ids, agg_ids, wrap_succ (show k + 1 < 9223372036854775808 by omega)]))
        case mwf => repeat (first | exact mwf_nil _ | refine mwf_upd ?_ (by simp [A.ids, O.ids, upd_app, entsQ_flat, putE, List.flatMap_append, c_ids, agg_ids, wrap_succ (show k + 1 < 9223372036854775808 by omega)]))
        case mle => repeat (first | exact mle_nil _ | exact mle_refl _ | refine mle_upd ?_ (by first | rfl | (simp only [upd_app, killM_app, O.kill, A.kill, Nat.reduceEqDiff, reduceIte, Option.map_some, Option.map_none, List.map_cons, List.map_nil, entsQ_flat, putE, List.flatMap_append, c_ids, agg_ids, wrap_succ (show k + 1 < 9223372036854775808 by omega)]; done)))
        case sle => repeat (first | exact sle_top _ | exact sle_refl _ | refine sle_upd ?_ (by first | rfl | (simp only [upd_app, killS_app, A.kill, entry_zero, entry_succ, Nat.reduceEqDiff, reduceIte, entsQ_flat, putE, List.flatMap_append, c_ids, agg_ids, wrap_succ (show k + 1 < 9223372036854775808 by omega)]; done)))
    · intro hge
      simp only [decide_eq_false_iff_not, Int.ofNat_lt] at hge
      obtain rfl : k = l.length := by omega
      rw [List.take_length] at hS
      repeat (first | refine W.seq ?_ | refine W.block ?_ | refine W.skip ?_ | refine W.exit ?_ | refine W.region tab_ok 0 (by decide) (exec_run (by simp only [exa, beq_self_eq_true, ByteArray.size, Nat.reduceAdd, Nat.reduceLeDiff, Nat.reduceEqDiff, Nat.reduceMul, Int.reduceToNat, reduceIte, Int.reduceLE, Int.reduceNeg]; rfl)) ?_)
      refine W.loop (ι := Nat) (fun k => ⟨upd (upd (upd (upd (upd (upd (upd (upd (upd (upd (fun _ => .top) 0 (.c (.int .i64 N))) 1 (.c (.sl (l.map cE)))) 2 (.c (.int .i64 a))) 7 (.c (.bool true))) 10 (.c (.sl (P.map cZ)))) 14 (.map 95)) 17 (.map 105)) 106 (.c (.sl (R.map cZ)))) 107 (.c (.int .i64 R.length))) 108 (.c (.int .i64 k)),
          upd (upd Mem.nil 95 (some (.map (entsQ S)))) 105 (some (.map (entsT (R.take k))))⟩) (fun k => k ≤ R.length) (fun k => R.length - k) 0 ?start2 (Nat.zero_le _) ?round2
      case start2 =>
        refine le_mk ?sle ?mle ?swf ?mwf (kept_not hkeep) (by rfl)
        case swf => repeat (first | exact swf_top _ | refine swf_upd ?_ (by simp [A.ids, upd_app, entsQ_flat, entsT, List.take, List.map_nil]))
        case mwf => repeat (first | exact mwf_nil _ | refine mwf_upd ?_ (by simp [A.ids, O.ids, upd_app, entsQ_flat, entsT, List.take, List.map_nil]))
        case mle => repeat (first | exact mle_nil _ | exact mle_refl _ | refine mle_upd ?_ (by first | rfl | (simp only [upd_app, killM_app, O.kill, A.kill, Nat.reduceEqDiff, reduceIte, Option.map_some, Option.map_none, List.map_cons, List.map_nil, entsQ_flat, entsT, List.take, List.map_nil]; done)))
        case sle => repeat (first | exact sle_top _ | exact sle_refl _ | refine sle_upd ?_ (by first | rfl | (simp only [upd_app, killS_app, A.kill, entry_zero, entry_succ, Nat.reduceEqDiff, reduceIte, entsQ_flat, entsT, List.take, List.map_nil]; done)))
      case round2 =>
        intro k hk
        repeat (first | refine W.seq ?_ | refine W.block ?_ | refine W.skip ?_ | refine W.exit ?_ | refine W.region tab_ok 0 (by decide) (exec_run (by simp only [exa, beq_self_eq_true, ByteArray.size, Nat.reduceAdd, Nat.reduceLeDiff, Nat.reduceEqDiff, Nat.reduceMul, Int.reduceToNat, reduceIte, Int.reduceLE, Int.reduceNeg]; rfl)) ?_)
        refine W.cond rfl ?_ ?_
        · intro hlt
          simp only [decide_eq_true_eq, Int.ofNat_lt] at hlt
          obtain ⟨z, hz⟩ : ∃ z, R[k]? = some z := ⟨_, List.getElem?_eq_getElem hlt⟩
          have hnot : z ∉ R.take k := fun hmm => by
            obtain ⟨i, hi, e⟩ := List.getElem_of_mem hmm
            rw [List.length_take] at hi
            obtain ⟨q, hq⟩ := List.getElem?_eq_some_iff.1 hz
            rw [List.getElem_take] at e
            exact absurd ((List.getElem_inj hnd).1 (e.trans hq.symm)) (by omega)
          have hfind := findT_none hnot
          (repeat (first | refine W.seq ?_ | refine W.block ?_ | refine W.skip ?_ | refine W.exit ?_))
          refine W.region tab_ok 0 (by decide) (exec_run (by simp only [exa, beq_self_eq_true, ByteArray.size, Nat.reduceAdd, Nat.reduceLeDiff, Nat.reduceEqDiff, Nat.reduceMul, Int.reduceToNat, reduceIte, Int.reduceLE, Int.reduceNeg, at_map hz, cZ]; rfl)) ?_
          (repeat (first | refine W.seq ?_ | refine W.block ?_ | refine W.skip ?_ | refine W.exit ?_))
          refine W.regionK tab_ok 0 (by decide) ?_
          refine runk_split 2 (by simp only [exa, beq_self_eq_true, ByteArray.size, Nat.reduceAdd, Nat.reduceLeDiff, Nat.reduceEqDiff, Nat.reduceMul, Int.reduceToNat, reduceIte, Int.reduceLE, Int.reduceNeg]; rfl) ?_
          refine runk_put tab_ok (ents := (entsT (R.take k))) rfl (.inl rfl) rfl rfl (by first | rfl | (simp only [exa, beq_self_eq_true, ByteArray.size, Nat.reduceAdd, Nat.reduceLeDiff, Nat.reduceEqDiff, Nat.reduceMul, Int.reduceToNat, reduceIte, Int.reduceLE, Int.reduceNeg]; done)) rfl (by first | rfl | (simp only [exa, beq_self_eq_true, ByteArray.size, Nat.reduceAdd, Nat.reduceLeDiff, Nat.reduceEqDiff, Nat.reduceMul, Int.reduceToNat, reduceIte, Int.reduceLE, Int.reduceNeg]; rfl)) (by rfl) (by first | rfl | (simp only [exa, beq_self_eq_true, ByteArray.size, Nat.reduceAdd, Nat.reduceLeDiff, Nat.reduceEqDiff, Nat.reduceMul, Int.reduceToNat, reduceIte, Int.reduceLE, Int.reduceNeg]; rfl)) hfind ?_
          refine runk_exec (by simp only [exa, beq_self_eq_true, ByteArray.size, Nat.reduceAdd, Nat.reduceLeDiff, Nat.reduceEqDiff, Nat.reduceMul, Int.reduceToNat, reduceIte, Int.reduceLE, Int.reduceNeg]; rfl) ?_
          repeat (first | refine W.seq ?_ | refine W.block ?_ | refine W.skip ?_ | refine W.exit ?_ | refine W.region tab_ok 0 (by decide) (exec_run (by simp only [exa, beq_self_eq_true, ByteArray.size, Nat.reduceAdd, Nat.reduceLeDiff, Nat.reduceEqDiff, Nat.reduceMul, Int.reduceToNat, reduceIte, Int.reduceLE, Int.reduceNeg]; rfl)) ?_)
          refine ⟨k + 1, hlt, by omega, ?_⟩
          have htk : R.take (k + 1) = R.take k ++ [z] := by rw [List.take_add_one, hz]; rfl
          rw [htk, entsT_push]
          refine le_mk ?sle ?mle ?swf ?mwf (kept_not hkeep) (by rfl)
          case swf => repeat (first | exact swf_top _ | refine swf_upd ?_ (by simp [A.ids, upd_app, entsQ_flat, entsT_flat, putE, List.flatMap_append, c_ids, agg_ids, wrap_succ (show k + 1 < 9223372036854775808 by omega)]))
          case mwf => repeat (first | exact mwf_nil _ | refine mwf_upd ?_ (by simp [A.ids, O.ids, upd_app, entsQ_flat, entsT_flat, putE, List.flatMap_append, c_ids, agg_ids, wrap_succ (show k + 1 < 9223372036854775808 by omega)]))
          case mle => repeat (first | exact mle_nil _ | exact mle_refl _ | refine mle_upd ?_ (by first | rfl | (simp only [upd_app, killM_app, O.kill, A.kill, Nat.reduceEqDiff, reduceIte, Option.map_some, Option.map_none, List.map_cons, List.map_nil, entsQ_flat, entsT_flat, putE, List.flatMap_append, c_ids, agg_ids, wrap_succ (show k + 1 < 9223372036854775808 by omega)]; done)))
          case sle => repeat (first | exact sle_top _ | exact sle_refl _ | refine sle_upd ?_ (by first | rfl | (simp only [upd_app, killS_app, A.kill, entry_zero, entry_succ, Nat.reduceEqDiff, reduceIte, entsQ_flat, entsT_flat, putE, List.flatMap_append, c_ids, agg_ids, wrap_succ (show k + 1 < 9223372036854775808 by omega)]; done)))
        · intro hge
          simp only [decide_eq_false_iff_not, Int.ofNat_lt] at hge
          obtain rfl : k = R.length := by omega
          repeat (first | refine W.seq ?_ | refine W.block ?_ | refine W.skip ?_ | refine W.exit ?_ | refine W.region tab_ok 0 (by decide) (exec_run (by simp only [exa, beq_self_eq_true, ByteArray.size, Nat.reduceAdd, Nat.reduceLeDiff, Nat.reduceEqDiff, Nat.reduceMul, Int.reduceToNat, reduceIte, Int.reduceLE, Int.reduceNeg, List.take_length]; rfl)) ?_)
          refine W.loop (ι := Nat) (fun i => ⟨upd (upd (upd (upd (upd (upd (upd (upd (upd (fun _ => .top) 0 (.c (.int .i64 N))) 1 (.c (.sl (l.map cE)))) 2 (.c (.int .i64 a))) 7 (.c (.bool true))) 10 (.c (.sl (P.map cZ)))) 14 (.map 95)) 17 (.map 105)) 115 (.c (.int .i64 N))) 116 (.c (.int .i64 i)),
              upd (upd Mem.nil 95 (some (.map (entsQ S)))) 105 (some (.map (entsT R)))⟩) (fun i => i ≤ N) (fun i => N - i) 0 ?start3 (Nat.zero_le _) ?round3
          case start3 =>
            refine le_mk ?sle ?mle ?swf ?mwf (kept_not hkeep) (by rfl)
            case swf => repeat (first | exact swf_top _ | refine swf_upd ?_ (by simp [A.ids, upd_app, entsQ_flat, entsT_flat]))
            case mwf => repeat (first | exact mwf_nil _ | refine mwf_upd ?_ (by simp [A.ids, O.ids, upd_app, entsQ_flat, entsT_flat]))
            case mle => repeat (first | exact mle_nil _ | exact mle_refl _ | refine mle_upd ?_ (by first | rfl | (simp only [upd_app, killM_app, O.kill, A.kill, Nat.reduceEqDiff, reduceIte, Option.map_some, Option.map_none, List.map_cons, List.map_nil, entsQ_flat, entsT_flat]; done)))
            case sle => repeat (first | exact sle_top _ | exact sle_refl _ | refine sle_upd ?_ (by first | rfl | (simp only [upd_app, killS_app, A.kill, entry_zero, entry_succ, Nat.reduceEqDiff, reduceIte, entsQ_flat, entsT_flat]; done)))
          case round3 =>
            intro i hi
            repeat (first | refine W.seq ?_ | refine W.block ?_ | refine W.skip ?_ | refine W.exit ?_ | refine W.region tab_ok 0 (by decide) (exec_run (by simp only [exa, beq_self_eq_true, ByteArray.size, Nat.reduceAdd, Nat.reduceLeDiff, Nat.reduceEqDiff, Nat.reduceMul, Int.reduceToNat, reduceIte, Int.reduceLE, Int.reduceNeg]; rfl)) ?_)
            refine W.cond rfl ?_ ?_
            · intro hlt
              simp only [decide_eq_true_eq, Int.ofNat_lt] at hlt
              obtain ⟨w, h, ew, lw, hh, hw0, hw1, hst⟩ := hpt ha hlt
              obtain ⟨w', b, ew', lw', hb, -, -, -⟩ := hpt hlt ha
              have g1 := path_ok N l (by omega) a i
              have g2 := path_ok N l (by omega) i a
              rw [ew] at g1
              rw [ew'] at g2
              have hps := part_same (E := E) (a := a) (i := i)
              rw [← hh, ← hb] at hps
              have pi := hPa i hlt
              have pa := hPa a ha
              have hmi := hmem i
              rw [← hh] at hmi
              repeat (first | refine W.seq ?_ | refine W.block ?_ | refine W.skip ?_ | refine W.exit ?_ | refine W.region tab_ok 0 (by decide) (exec_run (by simp only [exa, beq_self_eq_true, ByteArray.size, Nat.reduceAdd, Nat.reduceLeDiff, Nat.reduceEqDiff, Nat.reduceMul, Int.reduceToNat, reduceIte, Int.reduceLE, Int.reduceNeg]; rfl)) ?_)
              refine W.regionK tab_ok 0 (by decide) ?_
              refine runk_split 4 (by simp only [exa, beq_self_eq_true, ByteArray.size, Nat.reduceAdd, Nat.reduceLeDiff, Nat.reduceEqDiff, Nat.reduceMul, Int.reduceToNat, reduceIte, Int.reduceLE, Int.reduceNeg]; rfl) ?_
              refine runk_call rfl rfl rfl rfl rfl (by simp) (cvs_cons cv_refl (cvs_cons cv_refl (cvs_cons cv_refl (cvs_cons cv_refl cvs_nil)))) (g1 _) ?_
              refine runk_exec (by simp only [exa, beq_self_eq_true, ByteArray.size, Nat.reduceAdd, Nat.reduceLeDiff, Nat.reduceEqDiff, Nat.reduceMul, Int.reduceToNat, reduceIte, Int.reduceLE, Int.reduceNeg]; rfl) ?_
              (repeat (first | refine W.seq ?_ | refine W.block ?_ | refine W.skip ?_ | refine W.exit ?_))
              by_cases h0 : h = 0
              · subst h0
                obtain ⟨q, hfind⟩ := findT_some (hmi.2 ⟨hlt, rfl⟩)
                obtain ⟨x1, x2, x3⟩ := hw1 rfl
                have hwl : w.length ≠ 0 := fun e => x3 (List.length_eq_zero_iff.1 e)
                (repeat (first | refine W.seq ?_ | refine W.block ?_ | refine W.skip ?_ | refine W.exit ?_))
                refine W.region tab_ok 0 (by decide) (exec_run (by simp only [exa, beq_self_eq_true, ByteArray.size, Nat.reduceAdd, Nat.reduceLeDiff, Nat.reduceEqDiff, Nat.reduceMul, Int.reduceToNat, reduceIte, Int.reduceLE, Int.reduceNeg, hfind]; rfl)) ?_
                refine W.cond rfl ?_ ?_
                · intro h; cases h
                intro _
                repeat (first | refine W.seq ?_ | refine W.block ?_ | refine W.skip ?_ | refine W.exit ?_ | refine W.region tab_ok 0 (by decide) (exec_run (by simp only [exa, beq_self_eq_true, ByteArray.size, Nat.reduceAdd, Nat.reduceLeDiff, Nat.reduceEqDiff, Nat.reduceMul, Int.reduceToNat, reduceIte, Int.reduceLE, Int.reduceNeg]; rfl)) ?_)
                refine W.loop (ι := Nat) (fun j => ⟨upd (upd (upd (upd (upd (upd (upd (upd (upd (upd (upd (upd (upd (fun _ => .top) 0 (.c (.int .i64 N))) 1 (.c (.sl (l.map cE)))) 2 (.c (.int .i64 a))) 7 (.c (.bool true))) 10 (.c (.sl (P.map cZ)))) 14 (.map 95)) 17 (.map 105)) 115 (.c (.int .i64 N))) 116 (.c (.int .i64 i))) 20 (.c (.int .i64 i))) 21 (.c (.sl (w.map cZ)))) 22 (.c (.int .i64 0))) 23 (.c (.int .i64 ((j + 1 : Nat) : Int))),
                    upd (upd Mem.nil 95 (some (.map (entsQ S)))) 105 (some (.map (entsT R)))⟩) (fun j => j + 1 ≤ w.length) (fun j => w.length - j) 0 ?start4 (by omega) ?round4
                case start4 =>
                  refine le_mk ?sle ?mle ?swf ?mwf (kept_not hkeep) (by rfl)
                  case swf => repeat (first | exact swf_top _ | refine swf_upd ?_ (by simp [A.ids, upd_app, entsQ_flat, entsT_flat]))
                  case mwf => repeat (first | exact mwf_nil _ | refine mwf_upd ?_ (by simp [A.ids, O.ids, upd_app, entsQ_flat, entsT_flat]))
                  case mle => repeat (first | exact mle_nil _ | exact mle_refl _ | refine mle_upd ?_ (by first | rfl | (simp only [upd_app, killM_app, O.kill, A.kill, Nat.reduceEqDiff, reduceIte, Option.map_some, Option.map_none, List.map_cons, List.map_nil, entsQ_flat, entsT_flat]; done)))
                  case sle => repeat (first | exact sle_top _ | exact sle_refl _ | refine sle_upd ?_ (by first | rfl | (simp only [upd_app, killS_app, A.kill, entry_zero, entry_succ, Nat.reduceEqDiff, reduceIte, entsQ_flat, entsT_flat]; done)))
                case round4 =>
                  intro j hj
                  repeat (first | refine W.seq ?_ | refine W.block ?_ | refine W.skip ?_ | refine W.exit ?_ | refine W.region tab_ok 0 (by decide) (exec_run (by simp only [exa, beq_self_eq_true, ByteArray.size, Nat.reduceAdd, Nat.reduceLeDiff, Nat.reduceEqDiff, Nat.reduceMul, Int.reduceToNat, reduceIte, Int.reduceLE, Int.reduceNeg]; rfl)) ?_)
                  refine W.cond rfl ?_ ?_
                  · intro hlt2
                    simp only [decide_eq_true_eq, Int.ofNat_lt] at hlt2
                    obtain ⟨x, hx⟩ : ∃ x, w[j]? = some x := ⟨_, List.getElem?_eq_getElem (by omega)⟩
                    obtain ⟨y, hy⟩ : ∃ y, w[j + 1]? = some y := ⟨_, List.getElem?_eq_getElem (by omega)⟩
                    have hxy : (x, y) ∈ S := (hS _).2 (hst j x y hx hy)
                    obtain ⟨q', hfq, -⟩ := findQ_some hxy
                    have hcx : cE (x, y) = [.int .i64 x, .int .i64 y] := rfl
                    rw [hcx] at hfq
                    have hsub : IntKind.i64.wrap (((j + 1 : Nat) : Int) - 1) = ((j : Nat) : Int) := by
                      rw [show ((j + 1 : Nat) : Int) - 1 = ((j : Nat) : Int) by omega]
                      exact wrap_nat (by omega)
                    repeat (first | refine W.seq ?_ | refine W.block ?_ | refine W.skip ?_ | refine W.exit ?_ | refine W.region tab_ok 0 (by decide) (exec_run (by simp only [exa, beq_self_eq_true, ByteArray.size, Nat.reduceAdd, Nat.reduceLeDiff, Nat.reduceEqDiff, Nat.reduceMul, Int.reduceToNat, reduceIte, Int.reduceLE, Int.reduceNeg]; rfl)) ?_)
                    refine W.regionDK tab_ok 0 follows_mixed (by kernel_rfl) (by decide) ?_
                    refine runk_exec (by simp only [exa, beq_self_eq_true, ByteArray.size, Nat.reduceAdd, Nat.reduceLeDiff, Nat.reduceEqDiff, Nat.reduceMul, Int.reduceToNat, reduceIte, Int.reduceLE, Int.reduceNeg, hsub, at_map hx, at_map hy, cZ, hfq, Int.toNat_natCast]; rfl) ?_
                    refine W.cond rfl ?_ ?_
                    · intro h; cases h
                    intro _
                    repeat (first | refine W.seq ?_ | refine W.block ?_ | refine W.skip ?_ | refine W.exit ?_ | refine W.region tab_ok 0 (by decide) (exec_run (by simp only [exa, beq_self_eq_true, ByteArray.size, Nat.reduceAdd, Nat.reduceLeDiff, Nat.reduceEqDiff, Nat.reduceMul, Int.reduceToNat, reduceIte, Int.reduceLE, Int.reduceNeg]; rfl)) ?_)
                    refine ⟨j + 1, hlt2, by omega, ?_⟩
                    refine le_mk ?sle ?mle ?swf ?mwf (kept_not hkeep) (by rfl)
                    case swf => repeat (first | exact swf_top _ | refine swf_upd ?_ (by simp [A.ids, upd_app, entsQ_flat, entsT_flat, wrap_succ (show j + 1 + 1 < 9223372036854775808 by omega)]))
                    case mwf => repeat (first | exact mwf_nil _ | refine mwf_upd ?_ (by simp [A.ids, O.ids, upd_app, entsQ_flat, entsT_flat, wrap_succ (show j + 1 + 1 < 9223372036854775808 by omega)]))
                    case mle => repeat (first | exact mle_nil _ | exact mle_refl _ | refine mle_upd ?_ (by first | rfl | (simp only [upd_app, killM_app, O.kill, A.kill, Nat.reduceEqDiff, reduceIte, Option.map_some, Option.map_none, List.map_cons, List.map_nil, entsQ_flat, entsT_flat, wrap_succ (show j + 1 + 1 < 9223372036854775808 by omega)]; done)))
                    case sle => repeat (first | exact sle_top _ | exact sle_refl _ | refine sle_upd ?_ (by first | rfl | (simp only [upd_app, killS_app, A.kill, entry_zero, entry_succ, Nat.reduceEqDiff, reduceIte, entsQ_flat, entsT_flat, wrap_succ (show j + 1 + 1 < 9223372036854775808 by omega)]; done)))
                  · intro hge
                    simp only [decide_eq_false_iff_not, Int.ofNat_lt] at hge
                    have hlast : IntKind.i64.wrap ((w.length : Int) - 1) = ((w.length - 1 : Nat) : Int) := by
                      rw [show (w.length : Int) - 1 = ((w.length - 1 : Nat) : Int) by omega]
                      exact wrap_nat (by omega)
                    have hwl' : ¬ ((w.length : Int) = 0) := by omega
                    (repeat (first | refine W.seq ?_ | refine W.block ?_ | refine W.skip ?_ | refine W.exit ?_))
                    (repeat (first | refine W.seq ?_ | refine W.block ?_ | refine W.skip ?_ | refine W.exit ?_))
                    refine W.region tab_ok 0 (by decide) (exec_run (by simp only [exa, beq_self_eq_true, ByteArray.size, Nat.reduceAdd, Nat.reduceLeDiff, Nat.reduceEqDiff, Nat.reduceMul, Int.reduceToNat, reduceIte, Int.reduceLE, Int.reduceNeg, hwl', at_map x1, at_map x2, hlast, cZ, Int.toNat_natCast, eq_self, List.length_map, Int.toNat_zero]; rfl)) ?_
                    refine W.cond rfl ?_ ?_
                    · intro h; cases h
                    intro _
                    (repeat (first | refine W.seq ?_ | refine W.block ?_ | refine W.skip ?_ | refine W.exit ?_))
                    refine W.regionK tab_ok 0 (by decide) ?_
                    refine runk_split 4 (by simp only [exa, beq_self_eq_true, ByteArray.size, Nat.reduceAdd, Nat.reduceLeDiff, Nat.reduceEqDiff, Nat.reduceMul, Int.reduceToNat, reduceIte, Int.reduceLE, Int.reduceNeg]; rfl) ?_
                    refine runk_call rfl rfl rfl rfl rfl (by simp) (cvs_cons cv_refl (cvs_cons cv_refl (cvs_cons cv_refl (cvs_cons cv_refl cvs_nil)))) (g2 _) ?_
                    refine runk_exec (by simp only [exa, beq_self_eq_true, ByteArray.size, Nat.reduceAdd, Nat.reduceLeDiff, Nat.reduceEqDiff, Nat.reduceMul, Int.reduceToNat, reduceIte, Int.reduceLE, Int.reduceNeg]; rfl) ?_
                    (repeat (first | refine W.seq ?_ | refine W.block ?_ | refine W.skip ?_ | refine W.exit ?_))
                    by_cases b0 : b = 0
                    · have hpe : partE E i = partE E a := hps.2 ⟨rfl, b0⟩
                      rw [hpe] at pi
                      refine W.regionDK tab_ok 0 follows_mixed (by kernel_rfl) (by decide) ?_
                      refine runk_exec (by simp only [exa, beq_self_eq_true, ByteArray.size, Nat.reduceAdd, Nat.reduceLeDiff, Nat.reduceEqDiff, Nat.reduceMul, Int.reduceToNat, reduceIte, Int.reduceLE, Int.reduceNeg, at_map pi, at_map pa, cZ, Int.toNat_natCast, eq_self, b0]; rfl) ?_
                      refine W.cond rfl ?_ ?_
                      · intro h; cases h
                      intro _
                      repeat (first | refine W.seq ?_ | refine W.block ?_ | refine W.skip ?_ | refine W.exit ?_ | refine W.region tab_ok 0 (by decide) (exec_run (by simp only [exa, beq_self_eq_true, ByteArray.size, Nat.reduceAdd, Nat.reduceLeDiff, Nat.reduceEqDiff, Nat.reduceMul, Int.reduceToNat, reduceIte, Int.reduceLE, Int.reduceNeg]; rfl)) ?_)
                      refine ⟨i + 1, hlt, by omega, ?_⟩
                      refine le_mk ?sle ?mle ?swf ?mwf (kept_not hkeep) (by rfl)
                      case swf => repeat (first | exact swf_top _ | refine swf_upd ?_ (by simp [A.ids, upd_app, entsQ_flat, entsT_flat, wrap_succ (show i + 1 < 9223372036854775808 by omega)]))
                      case mwf => repeat (first | exact mwf_nil _ | refine mwf_upd ?_ (by simp [A.ids, O.ids, upd_app, entsQ_flat, entsT_flat, wrap_succ (show i + 1 < 9223372036854775808 by omega)]))
                      case mle => repeat (first | exact mle_nil _ | exact mle_refl _ | refine mle_upd ?_ (by first | rfl | (simp only [upd_app, killM_app, O.kill, A.kill, Nat.reduceEqDiff, reduceIte, Option.map_some, Option.map_none, List.map_cons, List.map_nil, entsQ_flat, entsT_flat, wrap_succ (show i + 1 < 9223372036854775808 by omega)]; done)))
                      case sle => repeat (first | exact sle_top _ | exact sle_refl _ | refine sle_upd ?_ (by first | rfl | (simp only [upd_app, killS_app, A.kill, entry_zero, entry_succ, Nat.reduceEqDiff, reduceIte, entsQ_flat, entsT_flat, wrap_succ (show i + 1 < 9223372036854775808 by omega)]; done)))
                    · have hpe : ¬ (((partE E i : Nat) : Int) = ((partE E a : Nat) : Int)) := fun e => b0 (hps.1 (by omega)).2
                      refine W.regionDK tab_ok 0 follows_mixed (by kernel_rfl) (by decide) ?_
                      refine runk_exec (by simp only [exa, beq_self_eq_true, ByteArray.size, Nat.reduceAdd, Nat.reduceLeDiff, Nat.reduceEqDiff, Nat.reduceMul, Int.reduceToNat, reduceIte, Int.reduceLE, Int.reduceNeg, at_map pi, at_map pa, cZ, Int.toNat_natCast, hpe, b0]; rfl) ?_
                      refine W.cond rfl ?_ ?_
                      · intro h; cases h
                      intro _
                      repeat (first | refine W.seq ?_ | refine W.block ?_ | refine W.skip ?_ | refine W.exit ?_ | refine W.region tab_ok 0 (by decide) (exec_run (by simp only [exa, beq_self_eq_true, ByteArray.size, Nat.reduceAdd, Nat.reduceLeDiff, Nat.reduceEqDiff, Nat.reduceMul, Int.reduceToNat, reduceIte, Int.reduceLE, Int.reduceNeg]; rfl)) ?_)
                      refine ⟨i + 1, hlt, by omega, ?_⟩
                      refine le_mk ?sle ?mle ?swf ?mwf (kept_not hkeep) (by rfl)
                      case swf => repeat (first | exact swf_top _ | refine swf_upd ?_ (by simp [A.ids, upd_app, entsQ_flat, entsT_flat, wrap_succ (show i + 1 < 9223372036854775808 by omega)]))
                      case mwf => repeat (first | exact mwf_nil _ | refine mwf_upd ?_ (by simp [A.ids, O.ids, upd_app, entsQ_flat, entsT_flat, wrap_succ (show i + 1 < 9223372036854775808 by omega)]))
                      case mle => repeat (first | exact mle_nil _ | exact mle_refl _ | refine mle_upd ?_ (by first | rfl | (simp only [upd_app, killM_app, O.kill, A.kill, Nat.reduceEqDiff, reduceIte, Option.map_some, Option.map_none, List.map_cons, List.map_nil, entsQ_flat, entsT_flat, wrap_succ (show i + 1 < 9223372036854775808 by omega)]; done)))
                      case sle => repeat (first | exact sle_top _ | exact sle_refl _ | refine sle_upd ?_ (by first | rfl | (simp only [upd_app, killS_app, A.kill, entry_zero, entry_succ, Nat.reduceEqDiff, reduceIte, entsQ_flat, entsT_flat, wrap_succ (show i + 1 < 9223372036854775808 by omega)]; done)))
              · have hfind := findT_none (z := (i : Int)) (L := R) fun hm => h0 (hmi.1 hm).2
                obtain rfl := hw0 h0
                (repeat (first | refine W.seq ?_ | refine W.block ?_ | refine W.skip ?_ | refine W.exit ?_))
                refine W.region tab_ok 0 (by decide) (exec_run (by simp only [exa, beq_self_eq_true, ByteArray.size, Nat.reduceAdd, Nat.reduceLeDiff, Nat.reduceEqDiff, Nat.reduceMul, Int.reduceToNat, reduceIte, Int.reduceLE, Int.reduceNeg, hfind, h0]; rfl)) ?_
                refine W.cond rfl ?_ ?_
                · intro h; cases h
                intro _
                repeat (first | refine W.seq ?_ | refine W.block ?_ | refine W.skip ?_ | refine W.exit ?_ | refine W.region tab_ok 0 (by decide) (exec_run (by simp only [exa, beq_self_eq_true, ByteArray.size, Nat.reduceAdd, Nat.reduceLeDiff, Nat.reduceEqDiff, Nat.reduceMul, Int.reduceToNat, reduceIte, Int.reduceLE, Int.reduceNeg]; rfl)) ?_)
                refine W.loop (ι := Unit) (fun _ => ⟨upd (upd (upd (upd (upd (upd (upd (upd (upd (upd (upd (upd (upd (fun _ => .top) 0 (.c (.int .i64 N))) 1 (.c (.sl (l.map cE)))) 2 (.c (.int .i64 a))) 7 (.c (.bool true))) 10 (.c (.sl (P.map cZ)))) 14 (.map 95)) 17 (.map 105)) 115 (.c (.int .i64 N))) 116 (.c (.int .i64 i))) 20 (.c (.int .i64 i))) 21 (.c (.sl []))) 22 (.c (.int .i64 h))) 23 (.c (.int .i64 1)),
                    upd (upd Mem.nil 95 (some (.map (entsQ S)))) 105 (some (.map (entsT R)))⟩) (fun _ => True) (fun _ => 0) () ?start4 trivial ?round4
                case start4 =>
                  refine le_mk ?sle ?mle ?swf ?mwf (kept_not hkeep) (by rfl)
                  case swf => repeat (first | exact swf_top _ | refine swf_upd ?_ (by simp [A.ids, upd_app, entsQ_flat, entsT_flat]))
                  case mwf => repeat (first | exact mwf_nil _ | refine mwf_upd ?_ (by simp [A.ids, O.ids, upd_app, entsQ_flat, entsT_flat]))
                  case mle => repeat (first | exact mle_nil _ | exact mle_refl _ | refine mle_upd ?_ (by first | rfl | (simp only [upd_app, killM_app, O.kill, A.kill, Nat.reduceEqDiff, reduceIte, Option.map_some, Option.map_none, List.map_cons, List.map_nil, entsQ_flat, entsT_flat]; done)))
                  case sle => repeat (first | exact sle_top _ | exact sle_refl _ | refine sle_upd ?_ (by first | rfl | (simp only [upd_app, killS_app, A.kill, entry_zero, entry_succ, Nat.reduceEqDiff, reduceIte, entsQ_flat, entsT_flat]; done)))
                case round4 =>
                  intro _ _
                  repeat (first | refine W.seq ?_ | refine W.block ?_ | refine W.skip ?_ | refine W.exit ?_ | refine W.region tab_ok 0 (by decide) (exec_run (by simp only [exa, beq_self_eq_true, ByteArray.size, Nat.reduceAdd, Nat.reduceLeDiff, Nat.reduceEqDiff, Nat.reduceMul, Int.reduceToNat, reduceIte, Int.reduceLE, Int.reduceNeg]; rfl)) ?_)
                  refine W.cond rfl ?_ ?_
                  · intro h; exfalso; revert h; decide
                  intro _
                  (repeat (first | refine W.seq ?_ | refine W.block ?_ | refine W.skip ?_ | refine W.exit ?_))
                  (repeat (first | refine W.seq ?_ | refine W.block ?_ | refine W.skip ?_ | refine W.exit ?_))
                  refine W.region tab_ok 0 (by decide) (exec_run (by simp only [exa, beq_self_eq_true, ByteArray.size, Nat.reduceAdd, Nat.reduceLeDiff, Nat.reduceEqDiff, Nat.reduceMul, Int.reduceToNat, reduceIte, Int.reduceLE, Int.reduceNeg, h0]; rfl)) ?_
                  refine W.cond rfl ?_ ?_
                  · intro h; cases h
                  intro _
                  (repeat (first | refine W.seq ?_ | refine W.block ?_ | refine W.skip ?_ | refine W.exit ?_))
                  refine W.regionK tab_ok 0 (by decide) ?_
                  refine runk_split 4 (by simp only [exa, beq_self_eq_true, ByteArray.size, Nat.reduceAdd, Nat.reduceLeDiff, Nat.reduceEqDiff, Nat.reduceMul, Int.reduceToNat, reduceIte, Int.reduceLE, Int.reduceNeg]; rfl) ?_
                  refine runk_call rfl rfl rfl rfl rfl (by simp) (cvs_cons cv_refl (cvs_cons cv_refl (cvs_cons cv_refl (cvs_cons cv_refl cvs_nil)))) (g2 _) ?_
                  refine runk_exec (by simp only [exa, beq_self_eq_true, ByteArray.size, Nat.reduceAdd, Nat.reduceLeDiff, Nat.reduceEqDiff, Nat.reduceMul, Int.reduceToNat, reduceIte, Int.reduceLE, Int.reduceNeg]; rfl) ?_
                  (repeat (first | refine W.seq ?_ | refine W.block ?_ | refine W.skip ?_ | refine W.exit ?_))
                  have hpe : ¬ (((partE E i : Nat) : Int) = ((partE E a : Nat) : Int)) := fun e => h0 (hps.1 (by omega)).1
                  refine W.regionDK tab_ok 0 follows_mixed (by kernel_rfl) (by decide) ?_
                  refine runk_exec (by simp only [exa, beq_self_eq_true, ByteArray.size, Nat.reduceAdd, Nat.reduceLeDiff, Nat.reduceEqDiff, Nat.reduceMul, Int.reduceToNat, reduceIte, Int.reduceLE, Int.reduceNeg, at_map pi, at_map pa, cZ, Int.toNat_natCast, hpe, h0]; rfl) ?_
                  refine W.cond rfl ?_ ?_
                  · intro h; cases h
                  intro _
                  repeat (first | refine W.seq ?_ | refine W.block ?_ | refine W.skip ?_ | refine W.exit ?_ | refine W.region tab_ok 0 (by decide) (exec_run (by simp only [exa, beq_self_eq_true, ByteArray.size, Nat.reduceAdd, Nat.reduceLeDiff, Nat.reduceEqDiff, Nat.reduceMul, Int.reduceToNat, reduceIte, Int.reduceLE, Int.reduceNeg]; rfl)) ?_)
                  refine ⟨i + 1, hlt, by omega, ?_⟩
                  refine le_mk ?sle ?mle ?swf ?mwf (kept_not hkeep) (by rfl)
                  case swf => repeat (first | exact swf_top _ | refine swf_upd ?_ (by simp [A.ids, upd_app, entsQ_flat, entsT_flat, wrap_succ (show i + 1 < 9223372036854775808 by omega)]))
                  case mwf => repeat (first | exact mwf_nil _ | refine mwf_upd ?_ (by simp [A.ids, O.ids, upd_app, entsQ_flat, entsT_flat, wrap_succ (show i + 1 < 9223372036854775808 by omega)]))
                  case mle => repeat (first | exact mle_nil _ | exact mle_refl _ | refine mle_upd ?_ (by first | rfl | (simp only [upd_app, killM_app, O.kill, A.kill, Nat.reduceEqDiff, reduceIte, Option.map_some, Option.map_none, List.map_cons, List.map_nil, entsQ_flat, entsT_flat, wrap_succ (show i + 1 < 9223372036854775808 by omega)]; done)))
                  case sle => repeat (first | exact sle_top _ | exact sle_refl _ | refine sle_upd ?_ (by first | rfl | (simp only [upd_app, killS_app, A.kill, entry_zero, entry_succ, Nat.reduceEqDiff, reduceIte, entsQ_flat, entsT_flat, wrap_succ (show i + 1 < 9223372036854775808 by omega)]; done)))
            · intro hge
              simp only [decide_eq_false_iff_not, Int.ofNat_lt] at hge
              repeat (first | refine W.seq ?_ | refine W.block ?_ | refine W.skip ?_ | refine W.exit ?_ | refine W.region tab_ok 0 (by decide) (exec_run (by simp only [exa, beq_self_eq_true, ByteArray.size, Nat.reduceAdd, Nat.reduceLeDiff, Nat.reduceEqDiff, Nat.reduceMul, Int.reduceToNat, reduceIte, Int.reduceLE, Int.reduceNeg]; rfl)) ?_)
              refine W.ret ⟨.inr rfl, by rfl, ?_⟩
              simp only [Tryd.f7, resA, resOne, toT, fin, exa, beq_self_eq_true, ByteArray.size, Nat.reduceAdd, Nat.reduceLeDiff, Nat.reduceEqDiff, Nat.reduceMul, Int.reduceToNat, reduceIte, Int.reduceLE, Int.reduceNeg]
end V
end Go.Proofs.YtknmcmfdbfhadaaDoor
end
section
/- GraphFits: true for every input. Condition: the library's table as its initialiser lays it, which the card ties. -/
set_option linter.unusedVariables false
set_option linter.unusedSimpArgs false
namespace Go.Proofs.YtknmcmfdbfhadaaDoor
open Go.ChangeShapes Go.WideShapes Go.ChangeAt Go.RowKit
open Go.ChangeMaps (open_string shut_string)
open V
theorem graphFits_met (os : Os) : laidMet Tryd.prog Rows.graphFitsRow.laid ((laidWorld os).forCall (fun _ _ => 0) ⟨#[], #[.int .i64 0, .slice none 0 0, .int .i64 0], []⟩).memory :=
  laidMet_of_run' 8 (by kernel_rfl) (by kernel_rfl)
theorem graphFits_reads (os : Os) {H : Type} (enc : TypeId × Value → H) : ∃ places, DataW.whole enc Tryd.prog ((laidWorld os).forCall (fun _ _ => 0) ⟨#[], #[.int .i64 0, .slice none 0 0, .int .i64 0], []⟩).memory Tryd.f7.params.toList Rows.graphFitsSpec.vars false (#[.int .i64 0, .slice none 0 0, .int .i64 0] : Array Value).toList 8 = some ([.lit (.int .i64 0), .nil, .lit (.int .i64 0)], [], places) :=
  ⟨[], by kernel_rfl⟩
set_option maxRecDepth 100000 in
set_option maxHeartbeats 4000000 in
theorem graphFits_lifted (os : Os) (started : os.Started) (H : Type) (enc : TypeId × Value → H) (F : Stop.Interp) :
    ReturnsInHanded {} Tryd.checked os 7 .any ((OpenSpec.ofChange Rows.graphFitsSpec).preRow enc Tryd.prog Tryd.f7 Rows.graphFitsRow.domain false Rows.graphFitsRow.laid) (((OpenSpec.ofChange Rows.graphFitsSpec).at F).post enc Tryd.prog Tryd.f7 false true false false) := by
  obtain ⟨places, hx⟩ := graphFits_reads os enc
  refine returnsInHanded_of_row (C := Tryd.checked) (s := OpenSpec.ofChange Rows.graphFitsSpec) own started (by kernel_rfl) Tryd.func7
    (witness_row_at (enc := enc) (C := Tryd.checked) false (laidWorld os) #[.int .i64 0, .slice none 0 0, .int .i64 0] rfl (by kernel_rfl) (by kernel_rfl) (by kernel_rfl)
      (OpenSpec.preRow_of_cond 8 hx (by kernel_rfl) (fun k hk => by cases hk) (by kernel_rfl) (graphFits_met os))) ?_
  intro W base args ds gs before hval0 hW _ _ hsz0 hL hsh _
  have hval : ∀ (j : Nat) t v, Tryd.f7.params[j]? = some t → args[j]? = some v → Value.okWide Tryd.prog W .any base t v := hval0
  have hW' := hW
  obtain ⟨p, q, hA0, hV, rfl, hfz, hnd⟩ := hW
  have hA : DataW.TrodAll enc Tryd.prog W 0 (fun _ => true) true Tryd.f7.params.toList args.toList ds p := hA0
  have hsz : ∀ n ∈ DataW.weightsEach Tryd.prog (Tryd.f7.params.toList ++ Rows.graphFitsSpec.plain.varTypes Tryd.prog) (ds ++ gs), n ≤ reachBytes := fun n hn => of_decide_eq_true (List.all_eq_true.1 hsz0 n hn)
  rw [Tryd.params7] at hA hval hsz
  clear hsz0
  obtain ⟨v0, vs0, d0, ds0, p0, q0, hargs, rfl, rfl, h0, r0⟩ := trodAll_cons hA
  obtain ⟨v1, vs1, d1, ds1, p1, q1, rfl, rfl, rfl, h1, r1⟩ := trodAll_cons r0
  obtain ⟨v2, vs2, d2, ds2, p2, q2, rfl, rfl, rfl, h2, r2⟩ := trodAll_cons r1
  obtain ⟨rfl, rfl, rfl⟩ := trodAll_nil r2
  obtain rfl : args = #[v0, v1, v2] := by cases args; simp_all
  obtain ⟨rfl, rfl⟩ := trodVars_none hV
  clear hA0 hval0
  simp only [List.append_nil] at hW'
  have k0 := h0
  have lt0 : ∀ x ∈ p0, x.block < W.heap.size := by obtain ⟨m, hm⟩ := k0; exact DataW.trod_lt m _ _ _ hm
  have k1 := h1
  have lt1 : ∀ x ∈ p1, x.block < W.heap.size := by obtain ⟨m, hm⟩ := k1; exact DataW.trod_lt m _ _ _ hm
  have k2 := h2
  have lt2 : ∀ x ∈ p2, x.block < W.heap.size := by obtain ⟨m, hm⟩ := k2; exact DataW.trod_lt m _ _ _ hm
  obtain ⟨z0, rfl⟩ := okWide_int Tryd.underlying3 (hval 0 3 v0 rfl rfl)
  obtain ⟨rn0, h0⟩ := h0
  obtain ⟨ra0, re0, wf0⟩ := read_int h0
  obtain rfl : ra0 = z0 := by simpa [Value.cells] using re0.symm
  have fit1 : Fits Tryd.prog 22 d1 := fun n hn => hsz n (DataW.weights_mem_each (j := 1) rfl rfl n hn)
  obtain ⟨sa1, sn1, sc1, rfl⟩ := okWide_slice Tryd.underlying22 (hval 1 22 v1 rfl rfl)
  obtain ⟨rn1, h1⟩ := h1
  obtain ⟨rv1, l1, re1, R1⟩ := read_edges fit1 h1
  obtain rfl : rv1 = _ := by simpa [Value.cells] using re1.symm
  obtain ⟨z2, rfl⟩ := okWide_int Tryd.underlying3 (hval 2 3 v2 rfl rfl)
  obtain ⟨rn2, h2⟩ := h2
  obtain ⟨ra2, re2, wf2⟩ := read_int h2
  obtain rfl : ra2 = z2 := by simpa [Value.cells] using re2.symm
  refine (cok_true (vals := [_, _, _]) (lawFits_ok ra0 l1 ra2 _) (table hL) (fun B => ⟨rv_int wf0, rv_edges R1, rv_int wf2, trivial⟩)).mono fun e W' ⟨he, bel⟩ => ?_
  subst he
  exact ⟨_, rfl, _, _, _, [], _, [], hW', trodAll_mk1 (shut_bool Tryd.underlying4 _), trodAll_cons_mk (Below.trod laidOut (by kernel_rfl) (of_decide_eq_true (by kernel_rfl)) k0 bel lt0) (trodAll_cons_mk (Below.trod laidOut (by kernel_rfl) (of_decide_eq_true (by kernel_rfl)) k1 bel lt1) (trodAll_cons_mk (Below.trod laidOut (by kernel_rfl) (of_decide_eq_true (by kernel_rfl)) k2 bel lt2) trodAll_mk0)), rfl, bel.frame _, fun h => by cases h⟩

theorem graphFits_holds : Rows.GraphFitsSaid :=
  OpenClaim.holds_of_cond 7 Tryd.f7 rfl rfl rfl rfl rfl rfl rfl ⟨rfl, rfl, rfl, rfl, rfl⟩ rfl rfl rfl rfl rfl (by kernel_rfl) Tryd.func7 (by kernel_rfl)
    (of_decide_eq_true (by kernel_rfl)) (by unfold Func.isWrapper; first | (rw [if_pos (by decide +kernel)]; kernel_rfl) | (rw [if_neg (by decide +kernel)]; exact ⟨rfl, rfl⟩))
    (fun os started H enc _ F => by rw [OpenClaim.pre_eq_preRow]; exact graphFits_lifted os started H enc F)
theorem graphFits_plain (f : FuncId) (fn : Func) (hf : Tryd.pinned.checked.prog.funcNamed "mordant/mordantlaw15.GraphFits" = some f) (hfn : Tryd.pinned.checked.prog.funcs[f]? = some fn) :
    false = Tryd.pinned.checked.prog.looks [] ∧ ∀ (j : Nat) t, fn.params[j]? = some t → Tryd.pinned.checked.prog.wantsStandIn t = false := by
  obtain rfl : f = 7 := Option.some.inj ((show Tryd.prog.funcNamed "mordant/mordantlaw15.GraphFits" = some 7 by kernel_rfl).symm.trans hf) |>.symm
  obtain rfl : fn = Tryd.f7 := (Option.some.inj (Tryd.func7.symm.trans hfn)).symm
  refine ⟨by kernel_rfl, fun j t ht => ?_⟩
  have hall : Tryd.f7.params.all (fun t => !Tryd.prog.wantsStandIn t) = true := by kernel_rfl
  have := Array.all_eq_true'.1 hall t (Array.mem_of_getElem? ht)
  have h2 : Tryd.prog.wantsStandIn t = false := by simpa using this
  exact h2
theorem graphFits_card : Rows.GraphFitsCardSaid :=
  Claim7.holds_tied_plain_at .later [] _ _ _ _ graphFits_holds (fun _ h => by cases h) (by kernel_rfl) (fun _ h => by cases h) graphFits_row_tie rfl ⟨rfl, rfl⟩ (by kernel_rfl) rfl graphFits_plain (by kernel_rfl)

end Go.Proofs.YtknmcmfdbfhadaaDoor
end
section
/- GraphChecks, GraphFits together: for the hand-in. -/
namespace Go.Proofs.YtknmcmfdbfhadaaDoor
end Go.Proofs.YtknmcmfdbfhadaaDoor
end
