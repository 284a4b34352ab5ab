/- Joined by my own program, in build order: Tt, Rtx, La3, Rs, Rm, La4, LawTx3. -/
import Derived.Test.YtbmbmcdaabhgnaaDoorT23
import Derived.Test.YtbmbmcdaabhgnaaDoorT13
import Derived.Test.YtbmbmcdaabhgnaaDoorT16
import Derived.Test.YtbmbmcdaabhgnaaDoorT22
import Derived.Test.YtbmbmcdaabhgnaaDoorCards
import Derived.Test.YtbmbmcdaabhgnaaDoorTie
set_option linter.unusedVariables false
set_option linter.unusedSimpArgs false
section
set_option linter.unusedVariables false
set_option linter.unusedSimpArgs false
namespace Go.Proofs.YtbmbmcdaabhgnaaDoor
namespace V
open Go.RowKit
theorem pgM_at {M : Mem} {j q i : Nat} {u : Bool} {t : Int} {bs : List UInt8} (hj : i ≠ j) (hq : i ≠ q) : pgM M j q u t bs i = M i := by
  unfold pgM; rw [upd_ne _ _ hq, upd_ne _ _ hj]
theorem line1 {M : Mem} {j q : Nat} {u : Bool} {bs : List UInt8} (h : PgAt M j q u 1 bs) (l : List ByteArray) (hl : l.length ≤ 1000000000) (hs : bs.length + 1 + (txtB l).length ≤ 140737488351232) :
    CallE Tryd.prog 24 [.ptr j 0, .c (.sl (l.map cStr))] M [q] (.tup []) (pgM M j q true 1 (bs ++ [9] ++ txtB l)) := line_ok (t := 1) h l hl hs
theorem block1 {M : Mem} {j q b : Nat} {u : Bool} {bs : List UInt8} (h : PgAt M j q u 1 bs) (hM : ∀ d, M (b + d) = none) (l : List Stmt) (hx : ∀ x ∈ l, StmtAt x) (hl : l.length ≤ 1000000000) (hs : bs.length + (brcX 1 (stmtsX l 2)).length ≤ 140737488351232) :
    CallE Tryd.prog 26 [.ptr j 0, .c (.sl (cStmts l))] M [q] (.tup []) (pgM M j q true 1 (bs ++ brcX 1 (stmtsX l 2))) := block_ok (t := 1) h hM l hx hl hs
theorem block0 {M : Mem} {j q b : Nat} {u : Bool} {bs : List UInt8} (h : PgAt M j q u 0 bs) (hM : ∀ d, M (b + d) = none) (l : List Stmt) (hx : ∀ x ∈ l, StmtAt x) (hl : l.length ≤ 1000000000) (hs : bs.length + (brcX 0 (stmtsX l 1)).length ≤ 140737488351232) :
    CallE Tryd.prog 26 [.ptr j 0, .c (.sl (cStmts l))] M [q] (.tup []) (pgM M j q true 0 (bs ++ brcX 0 (stmtsX l 1))) := block_ok (t := 0) h hM l hx hl hs
theorem flatX_take {α : Type} (f : α → List UInt8) {l : List α} {k : Nat} {x : α} (h : l[k]? = some x) : (l.take (k + 1)).flatMap f = (l.take k).flatMap f ++ f x := by
  rw [List.take_add_one, h, List.flatMap_append]; simp
theorem flatX_le {α : Type} (f : α → List UInt8) (l : List α) (k : Nat) : ((l.take k).flatMap f).length ≤ (l.flatMap f).length := by
  have : l.flatMap f = (l.take k).flatMap f ++ (l.drop k).flatMap f := by rw [← List.flatMap_append, List.take_append_drop]
  rw [this, List.length_append]; omega
def rowP (l : List Slot) (k : Nat) : List (List C) := (l.take k).map (fun s => [C.str ⟨(slotX s).toArray⟩]) ++ List.replicate (l.length - k) [C.str ⟨#[]⟩]
theorem rowP_zero (l : List Slot) : rowP l 0 = List.replicate l.length [C.str ⟨#[]⟩] := by simp [rowP]
theorem rowP_len {l : List Slot} {k : Nat} (h : k ≤ l.length) : (rowP l k).length = l.length := by simp [rowP]; omega
theorem rowP_at {l : List Slot} {k : Nat} (h : k < l.length) : (rowP l k)[k]? = some [C.str ⟨#[]⟩] := by
  unfold rowP
  have e : ((l.take k).map fun s => [C.str ⟨(slotX s).toArray⟩]).length = k := by rw [List.length_map, List.length_take]; omega
  rw [List.getElem?_append_right (by rw [e]; exact Nat.le_refl _), e, Nat.sub_self, List.getElem?_replicate, if_pos (by omega)]
theorem rowP_all (l : List Slot) : rowP l l.length = (l.map fun s => (⟨(slotX s).toArray⟩ : ByteArray)).map cStr := by simp [rowP, cStr]
theorem rowP_set {l : List Slot} {k : Nat} {s : Slot} (h : l[k]? = some s) : (rowP l k).set k [C.str ⟨(slotX s).toArray⟩] = rowP l (k + 1) := by
  have hk := (List.getElem?_eq_some_iff.1 h).1
  unfold rowP
  rw [List.take_add_one, h]
  rw [List.set_append_right _ _ (by simp; omega)]
  have : k - ((l.take k).map fun s => [C.str ⟨(slotX s).toArray⟩]).length = 0 := by simp; omega
  rw [this]
  obtain ⟨d, hd⟩ : ∃ d, l.length - k = d + 1 := ⟨l.length - k - 1, by omega⟩
  rw [hd, show l.length - (k + 1) = d by omega, List.replicate_succ]
  simp
theorem cntC_len : ∀ cs : List Class, cs.length ≤ (cs.map cntC).sum
  | [] => by simp
  | c :: cs => by have := cntC_len cs; simp only [List.length_cons, List.map_cons, List.sum_cons, cntC]; omega
theorem cntM_len : ∀ cs : List Method, cs.length ≤ (cs.map cntM).sum
  | [] => by simp
  | c :: cs => by have := cntM_len cs; simp only [List.length_cons, List.map_cons, List.sum_cons, cntM]; omega
def textP (p : Program) : ByteArray × Int := if checkB p then (if 8192 < (progX p).length then (⟨#[]⟩, 2) else (⟨(progX p).toArray⟩, 0)) else (⟨#[]⟩, 30)
set_option maxHeartbeats 8000000 in
theorem textP_ok (p : Program) (hc : cntP p ≤ 1048576) (m : Mem) : COk Tryd.prog 10 [.agg (cProg p)] m (.tup [(false, [.str (textP p).1]), (false, [.int .i64 (textP p).2])]) := by
  have hck := tree_ok p
  have hlen : checkB p = true → (progX p).length ≤ 10000000000000 := fun h => progX_len h hc
  obtain ⟨cs, mn⟩ := p
  simp only [cProg] at hck ⊢
  refine (ok_pure tab_ok Tryd.func10 (by kernel_rfl) rfl rfl (by rfl) (by rfl) (by rfl) (fun R hkeep => ?_) m)
  repeat (first | refine W.seq ?_ | refine W.block ?_ | refine W.skip ?_ | refine W.exit ?_ | refine W.region tab_ok 0 (by decide) (exec_run (by simp only [exa, beq_self_eq_true, ByteArray.size, Nat.reduceAdd, Nat.reduceLeDiff, Nat.reduceEqDiff, Nat.reduceMul, Int.reduceToNat, reduceIte, Int.reduceLE, Int.reduceNeg]; rfl)) ?_)
  (repeat (first | refine W.seq ?_ | refine W.block ?_ | refine W.skip ?_ | refine W.exit ?_))
  refine W.regionK tab_ok 0 (by decide) ?_
  refine runk_split 1 (by simp only [exa, beq_self_eq_true, ByteArray.size, Nat.reduceAdd, Nat.reduceLeDiff, Nat.reduceEqDiff, Nat.reduceMul, Int.reduceToNat, reduceIte, Int.reduceLE, Int.reduceNeg]; rfl) ?_
  refine runk_call rfl rfl rfl rfl rfl (by simp) (cvs_cons cv_refl cvs_nil) (hck _) ?_
  refine runk_exec (by simp only [exa, beq_self_eq_true, ByteArray.size, Nat.reduceAdd, Nat.reduceLeDiff, Nat.reduceEqDiff, Nat.reduceMul, Int.reduceToNat, reduceIte, Int.reduceLE, Int.reduceNeg]; rfl) ?_
  repeat (first | refine W.seq ?_ | refine W.block ?_ | refine W.skip ?_ | refine W.exit ?_ | refine W.region tab_ok 0 (by decide) (exec_run (by simp only [exa, beq_self_eq_true, ByteArray.size, Nat.reduceAdd, Nat.reduceLeDiff, Nat.reduceEqDiff, Nat.reduceMul, Int.reduceToNat, reduceIte, Int.reduceLE, Int.reduceNeg]; rfl)) ?_)
  cases hb : checkB ⟨cs, mn⟩ with
  | false =>
    refine W.cond rfl (fun _ => ?_) (fun h => absurd h (by decide))
    repeat (first | refine W.seq ?_ | refine W.block ?_ | refine W.skip ?_ | refine W.exit ?_ | refine W.region tab_ok 0 (by decide) (exec_run (by simp only [exa, beq_self_eq_true, ByteArray.size, Nat.reduceAdd, Nat.reduceLeDiff, Nat.reduceEqDiff, Nat.reduceMul, Int.reduceToNat, reduceIte, Int.reduceLE, Int.reduceNeg]; rfl)) ?_)
    refine W.ret ⟨.inr rfl, by rfl, ?_⟩
    simp only [Tryd.f10, resA, resOne, toT, fin, exa, beq_self_eq_true, ByteArray.size, Nat.reduceAdd, Nat.reduceLeDiff, Nat.reduceEqDiff, Nat.reduceMul, Int.reduceToNat, reduceIte, Int.reduceLE, Int.reduceNeg]
    simp [textP, hb, treeErr]
  | true =>
    have hlen := hlen hb
    refine W.cond rfl (fun h => absurd h (by decide)) (fun _ => ?_)
    repeat (first | refine W.seq ?_ | refine W.block ?_ | refine W.skip ?_ | refine W.exit ?_ | refine W.region tab_ok 0 (by decide) (exec_run (by simp only [exa, beq_self_eq_true, ByteArray.size, Nat.reduceAdd, Nat.reduceLeDiff, Nat.reduceEqDiff, Nat.reduceMul, Int.reduceToNat, reduceIte, Int.reduceLE, Int.reduceNeg]; rfl)) ?_)
    refine W.newRowBox true 21 1 300 5 1 (tyb := 47) (cells := [A.nilv (.pointer none), .nil, .c (.int .i64 0)]) rfl rfl rfl ?_
    obtain ⟨M, hM⟩ : ∃ M, M = upd (upd (upd (upd Mem.nil 1 (some (.box 33 [.c (.sl (cs.map cClass)), .c (.sl (cStmts mn))]))) 21 (some (.box 47 [.nilv (.pointer none), .nil, .c (.int .i64 0)]))) 300 (some (rowO true 5 1 []))) 21 (some (.box 47 ([A.nilv (.pointer none), .nil, .c (.int .i64 0)].set 1 (.own 300)))) := ⟨_, rfl⟩
    rw [← hM]
    have hp : PgAt M 21 300 false 0 [] := by
      rw [hM]
      refine ⟨rfl, rfl, by decide, fun i o ho hi => ?_⟩
      rw [upd_ne _ _ hi] at ho
      by_cases e1 : i = 300
      · subst e1; rw [upd_same] at ho; cases ho; rfl
      rw [upd_ne _ _ e1, upd_ne _ _ hi] at ho
      by_cases e2 : i = 1
      · subst e2; rw [upd_same] at ho; cases ho; rfl
      · rw [upd_ne _ _ e2] at ho; cases ho
    have hf : ∀ d, M (400 + d) = none := fun d => by
      rw [hM, upd_ne _ _ (by omega), upd_ne _ _ (by omega), upd_ne _ _ (by omega), upd_ne _ _ (by omega)]; rfl
    have hM1 : M 1 = some (.box 33 [.c (.sl (cs.map cClass)), .c (.sl (cStmts mn))]) := by rw [hM]; rfl
    have hN : M 7 = none ∧ M 9 = none ∧ M 11 = none ∧ M 14 = none ∧ M 77 = none := by rw [hM]; exact ⟨rfl, rfl, rfl, rfl, rfl⟩
    obtain ⟨hM7, hM9, hM11, hM14, hM77⟩ := hN
    have hpw : ∀ u t bs, PgAt (pgM M 21 300 u t bs) 21 300 u t bs := fun u t bs => hp.pgM
    have hWF : ∀ u t bs, WFm (pgM M 21 300 u t bs) := fun u t bs => by
      refine pgM_wf hp ?_
      rw [hM]
      repeat (first | exact mwf_nil _ | refine mwf_upd ?_ (by simp [A.ids, O.ids, upd_app, rowO]))
    clear hM
    have hbC : ∀ c ∈ cs, classB c = true := by
      unfold checkB at hb
      simp only [Bool.and_eq_true, List.all_eq_true] at hb
      exact hb.2
    have hbM : ∀ s ∈ mn, stmtB s = true := by
      unfold checkB at hb
      simp only [Bool.and_eq_true, List.all_eq_true] at hb
      exact hb.1
    have hcnt : (cs.map cntC).sum + cntSs mn ≤ 1048576 := hc
    have hcl : cs.length ≤ 1048576 := by
      have := cntC_len cs
      omega
    have hpl : (cs.flatMap classX).length + (5 + (brcX 0 (stmtsX mn 1)).length + 1) ≤ 10000000000000 := by
      simp only [progX, List.length_append, List.length_cons, List.length_nil] at hlen
      omega
    have hpj : ∀ (u : Bool) (t' : Int) (bs' : List UInt8), pgM M 21 300 u t' bs' 1 = some (.box 33 [.c (.sl (cs.map cClass)), .c (.sl (cStmts mn))]) := fun u t' bs' => by rw [pgM_at (by decide) (by decide)]; exact hM1
    repeat (first | refine W.seq ?_ | refine W.block ?_ | refine W.skip ?_ | refine W.exit ?_ | refine W.region tab_ok 0 (by decide) (exec_run (by simp only [exa, beq_self_eq_true, ByteArray.size, Nat.reduceAdd, Nat.reduceLeDiff, Nat.reduceEqDiff, Nat.reduceMul, Int.reduceToNat, reduceIte, Int.reduceLE, Int.reduceNeg, hM1, List.length_map]; rfl)) ?_)
    refine W.loop (ι := Nat) (fun k => ⟨upd (upd (upd (upd (upd (fun _ => .top) 1 (.ptr 1 0)) 5 (.ptr 21 0)) 23 (.c (.sl (cs.map cClass)))) 24 (.c (.int .i64 cs.length))) 25 (.c (.int .i64 k)), pgM M 21 300 (decide (0 < k)) 0 ((cs.take k).flatMap classX)⟩) (fun k => k ≤ cs.length) (fun k => cs.length - k) 0 ?start (Nat.zero_le _) ?round
    case start =>
      refine le_mk ?sle ?mle ?swf ?mwf (fun i hi => absurd hi (by rw [hkeep]; exact id)) (by rfl)
      case swf => repeat (first | exact swf_top _ | refine swf_upd ?_ (by simp [A.ids, pgM, upd_app, hM1]))
      case mwf => exact hWF _ _ _
      case mle => exact mle_refl' (pgM_same hp).symm
      case sle => repeat (first | exact sle_top _ | exact sle_refl _ | refine sle_upd ?_ (by first | rfl | (simp only [upd_app, killS_app, A.kill, entry_zero, entry_succ, Nat.reduceEqDiff, reduceIte, List.length_map]; done)))
    case round =>
      intro k hk
      repeat (first | refine W.seq ?_ | refine W.block ?_ | refine W.skip ?_ | refine W.exit ?_ | refine W.region tab_ok 0 (by decide) (exec_run (by simp only [exa, beq_self_eq_true, ByteArray.size, Nat.reduceAdd, Nat.reduceLeDiff, Nat.reduceEqDiff, Nat.reduceMul, Int.reduceToNat, reduceIte, Int.reduceLE, Int.reduceNeg]; rfl)) ?_)
      refine W.cond rfl ?_ ?_
      · intro hlt
        simp only [decide_eq_true_eq, Int.ofNat_lt] at hlt
        obtain ⟨c, hxk⟩ : ∃ c, cs[k]? = some c := ⟨_, List.getElem?_eq_getElem hlt⟩
        have htk := flatX_take classX hxk
        have hle := flatX_le classX cs (k + 1)
        have hln := congrArg List.length htk
        simp only [List.length_append] at hln
        have hat := at_map (f := cClass) hxk
        have hcm := List.mem_of_getElem? hxk
        have hcb := hbC c hcm
        have hcc := sumX_mem cntC cs c hcm
        obtain ⟨cnm, csu, cfl, cme⟩ := c
        simp only [cClass] at hat
        obtain ⟨B0, hB0⟩ : ∃ B0, (cs.take k).flatMap classX = B0 := ⟨_, rfl⟩
        obtain ⟨u0, hu0⟩ : ∃ u0, decide (0 < k) = u0 := ⟨_, rfl⟩
        rw [hB0] at htk hln ⊢
        rw [hu0]
        have h7n : ∀ u t bs, pgM M 21 300 u t bs 7 = none := fun u t bs => pgM_none hp hM7
        repeat (first | refine W.seq ?_ | refine W.block ?_ | refine W.skip ?_ | refine W.exit ?_ | refine W.region tab_ok 0 (by decide) (exec_run (by simp only [exa, beq_self_eq_true, ByteArray.size, Nat.reduceAdd, Nat.reduceLeDiff, Nat.reduceEqDiff, Nat.reduceMul, Int.reduceToNat, reduceIte, Int.reduceLE, Int.reduceNeg, hat, h7n]; rfl)) ?_)
        simp only [upd_upd]
        rw [← pgM_upd (by decide) (by decide)]
        obtain ⟨M7, hM7d⟩ : ∃ M7, M7 = upd M 7 (some (.box 57 [.c (.str cnm), .c (.str csu), .c (.sl (cfl.map cSlot)), .c (.sl (cme.map cMethod))])) := ⟨_, rfl⟩
        rw [← hM7d]
        have hp7 : PgAt M7 21 300 false 0 [] := by rw [hM7d]; exact hp.new hM7 rfl
        have hm7 : ∀ u t bs, pgM M7 21 300 u t bs 7 = some (.box 57 [.c (.str cnm), .c (.str csu), .c (.sl (cfl.map cSlot)), .c (.sl (cme.map cMethod))]) := fun u t bs => by rw [pgM_at (by decide) (by decide), hM7d, upd_same]
        have hN7 : M7 9 = none ∧ M7 11 = none ∧ M7 14 = none ∧ M7 77 = none := by rw [hM7d]; exact ⟨hM9, hM11, hM14, hM77⟩
        have hf7 : ∀ d, M7 (400 + d) = none := fun d => by rw [hM7d, upd_ne _ _ (by omega)]; exact hf d
        have hWF7 : ∀ u t bs, WFm (pgM M7 21 300 u t bs) := fun u t bs => by
          rw [hM7d, pgM_upd (by decide) (by decide)]
          exact mwf_some (hWF u t bs) (fun i hi => by simp [O.ids, A.ids] at hi)
        have off7 : ∀ u t bs, MLe (pgM M7 21 300 u t bs) (pgM M 21 300 u t bs) := fun u t bs => by
          rw [hM7d, pgM_upd (by decide) (by decide)]
          exact mle_off (pgM_none hp hM7)
        obtain ⟨hN9, hN11, hN14, hN77⟩ := hN7
        have hv1 : (M7 1).isSome = true := by rw [hM7d, upd_ne _ _ (by decide), hM1]; rfl
        have hv7 : (M7 7).isSome = true := by rw [hM7d, upd_same]; rfl
        clear hM7d
        obtain ⟨su, hsu⟩ : ∃ su, (if csu.data.toList.isEmpty then [] else [32, 101, 120, 116, 101, 110, 100, 115, 32] ++ csu.data.toList) = su := ⟨_, rfl⟩
        have hcx : classX ⟨cnm, csu, cfl, cme⟩ = [99, 108, 97, 115, 115, 32] ++ cnm.data.toList ++ su ++ [32, 123, 10] ++ cfl.flatMap fieldX ++ cme.flatMap methX ++ [125, 10] := by rw [← hsu]; rfl
        rw [hcx] at hln htk
        obtain ⟨FX, hFX⟩ : ∃ FX, cfl.flatMap fieldX = FX := ⟨_, rfl⟩
        obtain ⟨MX, hMX⟩ : ∃ MX, cme.flatMap methX = MX := ⟨_, rfl⟩
        rw [hFX, hMX] at hln htk
        simp only [List.length_append, List.length_cons, List.length_nil] at hln
        have hcnl : cnm.data.toList.length = cnm.size := by rw [Array.length_toList]; rfl
        have hs : B0.length + (6 + cnm.size + su.length + 3 + FX.length + MX.length + 2) ≤ 10000000000000 := by omega
        (repeat (first | refine W.seq ?_ | refine W.block ?_ | refine W.skip ?_ | refine W.exit ?_))
        refine W.regionK tab_ok 0 (by decide) ?_
        refine runk_split 4 (by simp only [exa, beq_self_eq_true, ByteArray.size, Nat.reduceAdd, Nat.reduceLeDiff, Nat.reduceEqDiff, Nat.reduceMul, Int.reduceToNat, reduceIte, Int.reduceLE, Int.reduceNeg, killS_app, A.kill, Nat.reduceEqDiff, if_false, reduceIte, hm7]; rfl) ?_
        refine runk_callE (D := [300]) rfl rfl rfl rfl rfl (fun i hi => by rw [hkeep]; exact id) (by simp) (by first | exact cvs_cons cv_refl (cvs_cons cv_refl cvs_nil) | exact cvs_cons cv_refl cvs_nil) (layM hp7 u0 B0 [⟨#[99, 108, 97, 115, 115, 32]⟩, cnm] (by simp) (by simp) (by simp [txtB]; omega)) ?_
        simp only [killL, putS]
        refine runk_exec (by simp only [exa, beq_self_eq_true, ByteArray.size, Nat.reduceAdd, Nat.reduceLeDiff, Nat.reduceEqDiff, Nat.reduceMul, Int.reduceToNat, reduceIte, Int.reduceLE, Int.reduceNeg]; rfl) ?_
        obtain ⟨B1, hB1⟩ : ∃ B1, B0 ++ txtB [⟨#[99, 108, 97, 115, 115, 32]⟩, cnm] = B1 := ⟨_, rfl⟩
        have hl1 : B1.length = B0.length + 6 + cnm.size := by rw [← hB1]; simp [txtB]; omega
        rw [hB1]
        refine W.seqJoin (ι := Unit) (fun _ => ⟨upd (upd (upd (upd (upd (upd (fun _ => .top) 1 (.ptr 1 0)) 5 (.ptr 21 0)) 7 (.ptr 7 0)) 23 (.c (.sl (cs.map cClass)))) 24 (.c (.int .i64 cs.length))) 25 (.c (.int .i64 k)), pgM M7 21 300 true 0 (B1 ++ su)⟩) (fun _ => True) ?first ?rest
        case first =>
          repeat (first | refine W.seq ?_ | refine W.block ?_ | refine W.skip ?_ | refine W.exit ?_ | refine W.region tab_ok 0 (by decide) (exec_run (by simp only [exa, beq_self_eq_true, ByteArray.size, Nat.reduceAdd, Nat.reduceLeDiff, Nat.reduceEqDiff, Nat.reduceMul, Int.reduceToNat, reduceIte, Int.reduceLE, Int.reduceNeg, hm7, killS_app, A.kill, Nat.reduceEqDiff, if_false, reduceIte]; rfl)) ?_)
          cases hce : csu.data.toList.isEmpty with
          | true =>
            have hsu0 : su = [] := by rw [← hsu, hce]; rfl
            have hcl0 : csu.toList = [] := by rw [toListX]; exact List.isEmpty_iff.1 hce
            rw [hcl0]
            refine W.cond rfl (fun h => absurd h (by decide)) (fun _ => W.skip ?_)
            refine ⟨by simp, fun c K' hk => W.weaken ?le (hk () trivial)⟩
            case le =>
              refine le_mk ?sle ?mle ?swf ?mwf (fun i hi => absurd hi (by rw [hkeep]; exact id)) (by rfl)
              case swf =>
                repeat (first | exact swf_top _ | refine swf_upd ?_ (by simp [A.ids, pgM, upd_app, hv1, hv7]))
              case mwf => exact hWF7 _ _ _
              case mle => exact mle_eq (congrArg (pgM M7 21 300 true 0) (by simp [hsu0])) (mle_refl _)
              case sle =>
                repeat (first | exact sle_top _ | exact sle_refl _ | refine sle_upd ?_ (by first | rfl | (simp only [upd_app, killS_app, A.kill, entry_zero, entry_succ, Nat.reduceEqDiff, reduceIte, List.length_map]; done)))
          | false =>
            have hsu1 : su = txtB [⟨#[32, 101, 120, 116, 101, 110, 100, 115, 32]⟩, csu] := by rw [← hsu, hce]; simp [txtB]
            have hcl0 : (!(csu.toList == [])) = true := by
              rw [toListX]
              cases hq : csu.data.toList with
              | nil => rw [hq] at hce; cases hce
              | cons a b => rfl
            refine W.cond rfl (fun _ => ?_) (fun h => absurd (hcl0.symm.trans h) (by decide))
            refine W.regionK tab_ok 0 (by decide) ?_
            refine runk_split 4 (by simp only [exa, beq_self_eq_true, ByteArray.size, Nat.reduceAdd, Nat.reduceLeDiff, Nat.reduceEqDiff, Nat.reduceMul, Int.reduceToNat, reduceIte, Int.reduceLE, Int.reduceNeg, killS_app, A.kill, Nat.reduceEqDiff, if_false, reduceIte, hm7]; rfl) ?_
            refine runk_callE (D := [300]) rfl rfl rfl rfl rfl (fun i hi => by rw [hkeep]; exact id) (by simp) (by first | exact cvs_cons cv_refl (cvs_cons cv_refl cvs_nil) | exact cvs_cons cv_refl cvs_nil) (layM hp7 true B1 [⟨#[32, 101, 120, 116, 101, 110, 100, 115, 32]⟩, csu] (by simp) (by simp) (by rw [← hsu1]; omega)) ?_
            simp only [killL, putS]
            refine runk_exec (by simp only [exa, beq_self_eq_true, ByteArray.size, Nat.reduceAdd, Nat.reduceLeDiff, Nat.reduceEqDiff, Nat.reduceMul, Int.reduceToNat, reduceIte, Int.reduceLE, Int.reduceNeg]; rfl) ?_
            refine ⟨by simp, fun c K' hk => W.weaken ?le (hk () trivial)⟩
            case le =>
              refine le_mk ?sle ?mle ?swf ?mwf (fun i hi => absurd hi (by rw [hkeep]; exact id)) (by rfl)
              case swf =>
                repeat (first | exact swf_top _ | refine swf_upd ?_ (by simp [A.ids, pgM, upd_app, hv1, hv7]))
              case mwf => exact hWF7 _ _ _
              case mle => exact mle_eq (congrArg (pgM M7 21 300 true 0) (by simp [hsu1])) (mle_refl _)
              case sle =>
                repeat (first | exact sle_top _ | exact sle_refl _ | refine sle_upd ?_ (by first | rfl | (simp only [upd_app, killS_app, A.kill, entry_zero, entry_succ, Nat.reduceEqDiff, reduceIte, List.length_map]; done)))
        case rest =>
          rintro - -
          have hpj7 : ∀ (t' : Int) (bs' : List UInt8), pgM M7 21 300 true t' bs' 21 = some (.box 47 [.ptr 21 0, .own 300, .c (.int .i64 t')]) := fun t' bs' => by
            unfold pgM; rw [upd_ne _ _ (by decide), upd_same]; rfl
          have hw1 : IntKind.i64.wrap (0 + 1) = 1 := by decide
          have hw2 : IntKind.i64.wrap (1 - 1) = 0 := by decide
          obtain ⟨B2, hB2⟩ : ∃ B2, B1 ++ su = B2 := ⟨_, rfl⟩
          have hl2 : B2.length = B1.length + su.length := by rw [← hB2, List.length_append]
          rw [hB2]
          (repeat (first | refine W.seq ?_ | refine W.block ?_ | refine W.skip ?_ | refine W.exit ?_))
          refine W.regionK tab_ok 0 (by decide) ?_
          refine runk_split 2 (by simp only [exa, beq_self_eq_true, ByteArray.size, Nat.reduceAdd, Nat.reduceLeDiff, Nat.reduceEqDiff, Nat.reduceMul, Int.reduceToNat, reduceIte, Int.reduceLE, Int.reduceNeg, killS_app, A.kill, Nat.reduceEqDiff, if_false, reduceIte, hm7]; rfl) ?_
          refine runk_callE (D := [300]) rfl rfl rfl rfl rfl (fun i hi => by rw [hkeep]; exact id) (by simp) (by first | exact cvs_cons cv_refl (cvs_cons cv_refl cvs_nil) | exact cvs_cons cv_refl cvs_nil) (layM hp7 true B2 [⟨#[32, 123, 10]⟩] (by simp) (by simp) (by simp [txtB]; omega)) ?_
          simp only [killL, putS]
          refine runk_exec (by simp only [exa, beq_self_eq_true, ByteArray.size, Nat.reduceAdd, Nat.reduceLeDiff, Nat.reduceEqDiff, Nat.reduceMul, Int.reduceToNat, reduceIte, Int.reduceLE, Int.reduceNeg]; rfl) ?_
          obtain ⟨B3, hB3⟩ : ∃ B3, B2 ++ txtB [⟨#[32, 123, 10]⟩] = B3 := ⟨_, rfl⟩
          have hl3 : B3.length = B2.length + 3 := by rw [← hB3]; simp [txtB]
          rw [hB3]
          repeat (first | refine W.seq ?_ | refine W.block ?_ | refine W.skip ?_ | refine W.exit ?_ | refine W.region tab_ok 0 (by decide) (exec_run (by simp only [exa, beq_self_eq_true, ByteArray.size, Nat.reduceAdd, Nat.reduceLeDiff, Nat.reduceEqDiff, Nat.reduceMul, Int.reduceToNat, reduceIte, Int.reduceLE, Int.reduceNeg, hpj7, hw1, hw2, killS_app, A.kill, Nat.reduceEqDiff, if_false, reduceIte]; rfl)) ?_)
          rw [tab_up (by decide)]
          repeat (first | refine W.seq ?_ | refine W.block ?_ | refine W.skip ?_ | refine W.exit ?_ | refine W.region tab_ok 0 (by decide) (exec_run (by simp only [exa, beq_self_eq_true, ByteArray.size, Nat.reduceAdd, Nat.reduceLeDiff, Nat.reduceEqDiff, Nat.reduceMul, Int.reduceToNat, reduceIte, Int.reduceLE, Int.reduceNeg, hm7, hw1, hw2, List.length_map, killS_app, A.kill, Nat.reduceEqDiff, if_false, reduceIte]; rfl)) ?_)
          have hcb' := hcb
          unfold classB classTop at hcb'
          simp only [Bool.and_eq_true, List.all_eq_true] at hcb'
          obtain ⟨⟨-, hfb⟩, hmb⟩ := hcb'
          have hfl := sumX_one cfl
          have hcml := cntM_len cme
          have hcc2 : 1 + cfl.length + (cme.map cntM).sum ≤ 1048576 := Nat.le_trans hcc (by omega)
          refine W.loop (ι := Nat) (fun k2 => ⟨upd (upd (upd (upd (upd (upd (upd (upd (upd (fun _ => .top) 1 (.ptr 1 0)) 5 (.ptr 21 0)) 7 (.ptr 7 0)) 23 (.c (.sl (cs.map cClass)))) 24 (.c (.int .i64 cs.length))) 25 (.c (.int .i64 k))) 53 (.c (.sl (cfl.map cSlot)))) 54 (.c (.int .i64 cfl.length))) 55 (.c (.int .i64 k2)), pgM M7 21 300 true 1 (B3 ++ (cfl.take k2).flatMap fieldX)⟩) (fun k2 => k2 ≤ cfl.length) (fun k2 => cfl.length - k2) 0 ?start2 (Nat.zero_le _) ?round2
          case start2 =>
            refine le_mk ?sle ?mle ?swf ?mwf (fun i hi => absurd hi (by rw [hkeep]; exact id)) (by rfl)
            case swf =>
              repeat (first | exact swf_top _ | refine swf_upd ?_ (by simp [A.ids, pgM, upd_app, hv1, hv7]))
            case mwf => exact hWF7 _ _ _
            case mle => simp only [List.take_zero, List.flatMap_nil, List.append_nil]; exact mle_refl _
            case sle =>
              repeat (first | exact sle_top _ | exact sle_refl _ | refine sle_upd ?_ (by first | rfl | (simp only [upd_app, killS_app, A.kill, entry_zero, entry_succ, Nat.reduceEqDiff, reduceIte, List.length_map]; done)))
          case round2 =>
            intro k2 hk2
            repeat (first | refine W.seq ?_ | refine W.block ?_ | refine W.skip ?_ | refine W.exit ?_ | refine W.region tab_ok 0 (by decide) (exec_run (by simp only [exa, beq_self_eq_true, ByteArray.size, Nat.reduceAdd, Nat.reduceLeDiff, Nat.reduceEqDiff, Nat.reduceMul, Int.reduceToNat, reduceIte, Int.reduceLE, Int.reduceNeg]; rfl)) ?_)
            refine W.cond rfl ?_ ?_
            · intro hlt2
              simp only [decide_eq_true_eq, Int.ofNat_lt] at hlt2
              obtain ⟨f, hxk2⟩ : ∃ f, cfl[k2]? = some f := ⟨_, List.getElem?_eq_getElem hlt2⟩
              have htk2 := flatX_take fieldX hxk2
              have hle2 := flatX_le fieldX cfl (k2 + 1)
              rw [hFX] at hle2
              have hln2 := congrArg List.length htk2
              simp only [List.length_append] at hln2
              have hat2 := at_map (f := cSlot) hxk2
              obtain ⟨fty, fnm⟩ := f
              simp only [cSlot] at hat2
              have hfx : fieldX ⟨fty, fnm⟩ = [9] ++ txtB [fty, ⟨#[32]⟩, fnm, ⟨#[59, 10]⟩] := by simp [fieldX, slotX, txtB]
              rw [hfx] at htk2 hln2
              simp only [List.length_append, List.length_cons, List.length_nil] at hln2
              obtain ⟨B4, hB4⟩ : ∃ B4, B3 ++ (cfl.take k2).flatMap fieldX = B4 := ⟨_, rfl⟩
              have hl4 : B4.length = B3.length + ((cfl.take k2).flatMap fieldX).length := by rw [← hB4, List.length_append]
              rw [hB4]
              have h9n : ∀ u t bs, pgM M7 21 300 u t bs 9 = none := fun u t bs => pgM_none hp7 hN9
              repeat (first | refine W.seq ?_ | refine W.block ?_ | refine W.skip ?_ | refine W.exit ?_ | refine W.region tab_ok 0 (by decide) (exec_run (by simp only [exa, beq_self_eq_true, ByteArray.size, Nat.reduceAdd, Nat.reduceLeDiff, Nat.reduceEqDiff, Nat.reduceMul, Int.reduceToNat, reduceIte, Int.reduceLE, Int.reduceNeg, hat2, h9n]; rfl)) ?_)
              simp only [upd_upd]
              rw [← pgM_upd (by decide) (by decide)]
              obtain ⟨M9, hM9d⟩ : ∃ M9, M9 = upd M7 9 (some (.box 60 [.c (.str fty), .c (.str fnm)])) := ⟨_, rfl⟩
              rw [← hM9d]
              have hp9 : PgAt M9 21 300 false 0 [] := by rw [hM9d]; exact hp7.new hN9 rfl
              have hm9 : ∀ u t bs, pgM M9 21 300 u t bs 9 = some (.box 60 [.c (.str fty), .c (.str fnm)]) := fun u t bs => by rw [pgM_at (by decide) (by decide), hM9d, upd_same]
              have off9 : ∀ u t bs, MLe (pgM M9 21 300 u t bs) (pgM M7 21 300 u t bs) := fun u t bs => by
                rw [hM9d, pgM_upd (by decide) (by decide)]
                exact mle_off (pgM_none hp7 hN9)
              have hli := line1 (hp9.pgM (u' := true) (t' := 1) (bs' := B4)) [fty, ⟨#[32]⟩, fnm, ⟨#[59, 10]⟩] (by simp) (by omega)
              rw [pgM_pgM (by decide)] at hli
              (repeat (first | refine W.seq ?_ | refine W.block ?_ | refine W.skip ?_ | refine W.exit ?_))
              refine W.regionK tab_ok 0 (by decide) ?_
              refine runk_split 6 (by simp only [exa, beq_self_eq_true, ByteArray.size, Nat.reduceAdd, Nat.reduceLeDiff, Nat.reduceEqDiff, Nat.reduceMul, Int.reduceToNat, reduceIte, Int.reduceLE, Int.reduceNeg, killS_app, A.kill, Nat.reduceEqDiff, if_false, reduceIte, hm9]; rfl) ?_
              refine runk_callE (D := [300]) rfl rfl rfl rfl rfl (fun i hi => by rw [hkeep]; exact id) (by simp) (by first | exact cvs_cons cv_refl (cvs_cons cv_refl cvs_nil) | exact cvs_cons cv_refl cvs_nil) hli ?_
              simp only [killL, putS]
              refine runk_exec (by simp only [exa, beq_self_eq_true, ByteArray.size, Nat.reduceAdd, Nat.reduceLeDiff, Nat.reduceEqDiff, Nat.reduceMul, Int.reduceToNat, reduceIte, Int.reduceLE, Int.reduceNeg]; rfl) ?_
              repeat (first | refine W.seq ?_ | refine W.block ?_ | refine W.skip ?_ | refine W.exit ?_ | refine W.region tab_ok 0 (by decide) (exec_run (by simp only [exa, beq_self_eq_true, ByteArray.size, Nat.reduceAdd, Nat.reduceLeDiff, Nat.reduceEqDiff, Nat.reduceMul, Int.reduceToNat, reduceIte, Int.reduceLE, Int.reduceNeg, killS_app, A.kill, Nat.reduceEqDiff, if_false, reduceIte]; rfl)) ?_)
              refine ⟨k2 + 1, hlt2, by omega, ?_⟩
              refine le_mk ?sle ?mle ?swf ?mwf (fun i hi => absurd hi (by rw [hkeep]; exact id)) (by rfl)
              case swf =>
                repeat (first | exact swf_top _ | refine swf_upd ?_ (by simp [A.ids, pgM, upd_app, hv1, hv7]))
              case mwf => exact hWF7 _ _ _
              case mle => exact mle_eq (congrArg (pgM M7 21 300 true 1) (by rw [htk2, ← hB4]; simp [List.append_assoc])) (off9 _ _ _)
              case sle =>
                repeat (first | exact sle_top _ | exact sle_refl _ | refine sle_upd ?_ (by first | rfl | (simp only [upd_app, killS_app, A.kill, entry_zero, entry_succ, Nat.reduceEqDiff, reduceIte, wrap_succ (show k2 + 1 < 9223372036854775808 by omega)]; done)))
            · intro hge2
              simp only [decide_eq_false_iff_not, Int.ofNat_lt] at hge2
              obtain rfl : k2 = cfl.length := by omega
              rw [List.take_length, hFX]
              repeat (first | refine W.seq ?_ | refine W.block ?_ | refine W.skip ?_ | refine W.exit ?_ | refine W.region tab_ok 0 (by decide) (exec_run (by simp only [exa, beq_self_eq_true, ByteArray.size, Nat.reduceAdd, Nat.reduceLeDiff, Nat.reduceEqDiff, Nat.reduceMul, Int.reduceToNat, reduceIte, Int.reduceLE, Int.reduceNeg, hm7, List.length_map]; rfl)) ?_)
              refine W.loop (ι := Nat) (fun k3 => ⟨upd (upd (upd (upd (upd (upd (upd (upd (upd (fun _ => .top) 1 (.ptr 1 0)) 5 (.ptr 21 0)) 7 (.ptr 7 0)) 23 (.c (.sl (cs.map cClass)))) 24 (.c (.int .i64 cs.length))) 25 (.c (.int .i64 k))) 68 (.c (.sl (cme.map cMethod)))) 69 (.c (.int .i64 cme.length))) 70 (.c (.int .i64 k3)), pgM M7 21 300 true 1 (B3 ++ FX ++ (cme.take k3).flatMap methX)⟩) (fun k3 => k3 ≤ cme.length) (fun k3 => cme.length - k3) 0 ?start3 (Nat.zero_le _) ?round3
              case start3 =>
                refine le_mk ?sle ?mle ?swf ?mwf (fun i hi => absurd hi (by rw [hkeep]; exact id)) (by rfl)
                case swf =>
                  repeat (first | exact swf_top _ | refine swf_upd ?_ (by simp [A.ids, pgM, upd_app, hv1, hv7]))
                case mwf => exact hWF7 _ _ _
                case mle => simp only [List.take_zero, List.flatMap_nil, List.append_nil]; exact mle_refl _
                case sle =>
                  repeat (first | exact sle_top _ | exact sle_refl _ | refine sle_upd ?_ (by first | rfl | (simp only [upd_app, killS_app, A.kill, entry_zero, entry_succ, Nat.reduceEqDiff, reduceIte, List.length_map]; done)))
              case round3 =>
                intro k3 hk3
                repeat (first | refine W.seq ?_ | refine W.block ?_ | refine W.skip ?_ | refine W.exit ?_ | refine W.region tab_ok 0 (by decide) (exec_run (by simp only [exa, beq_self_eq_true, ByteArray.size, Nat.reduceAdd, Nat.reduceLeDiff, Nat.reduceEqDiff, Nat.reduceMul, Int.reduceToNat, reduceIte, Int.reduceLE, Int.reduceNeg]; rfl)) ?_)
                refine W.cond rfl ?_ ?_
                · intro hlt3
                  simp only [decide_eq_true_eq, Int.ofNat_lt] at hlt3
                  obtain ⟨me, hxk3⟩ : ∃ me, cme[k3]? = some me := ⟨_, List.getElem?_eq_getElem hlt3⟩
                  have htk3 := flatX_take methX hxk3
                  have hle3 := flatX_le methX cme (k3 + 1)
                  rw [hMX] at hle3
                  have hln3 := congrArg List.length htk3
                  simp only [List.length_append] at hln3
                  have hat3 := at_map (f := cMethod) hxk3
                  have hmm := List.mem_of_getElem? hxk3
                  have hmB := hmb me hmm
                  have hmc := sumX_mem cntM cme me hmm
                  obtain ⟨mty, mnm, ps, bd⟩ := me
                  simp only [cMethod] at hat3
                  unfold methodB at hmB
                  simp only [Bool.and_eq_true, decide_eq_true_eq, List.all_eq_true] at hmB
                  obtain ⟨⟨⟨-, hp4⟩, hpB⟩, hbB⟩ := hmB
                  simp only [cntM] at hmc
                  have hmx : methX ⟨mty, mnm, ps, bd⟩ = [9] ++ txtB [mty, ⟨#[32]⟩, mnm, ⟨#[40]⟩, ⟨(commaX (ps.map slotX)).toArray⟩, ⟨#[41, 32]⟩] ++ brcX 1 (stmtsX bd 2) ++ txtB [⟨#[10]⟩] := by simp [methX, txtB]
                  obtain ⟨CX, hCX⟩ : ∃ CX, commaX (ps.map slotX) = CX := ⟨_, rfl⟩
                  have hCl : CX.length ≤ 140 := by
                    have := commaX_len (ps.map slotX) (fun x hx => by
                      obtain ⟨s, hs, rfl⟩ := List.mem_map.1 hx
                      exact slotX_len (hpB s hs))
                    rw [List.length_map, hCX] at this
                    omega
                  rw [hmx, hCX] at htk3 hln3
                  simp only [List.length_append, List.length_cons, List.length_nil] at hln3
                  obtain ⟨B5, hB5⟩ : ∃ B5, B3 ++ FX ++ (cme.take k3).flatMap methX = B5 := ⟨_, rfl⟩
                  have hl5 : B5.length = B3.length + FX.length + ((cme.take k3).flatMap methX).length := by rw [← hB5, List.length_append, List.length_append]
                  rw [hB5]
                  have h11n : ∀ u t bs, pgM M7 21 300 u t bs 11 = none := fun u t bs => pgM_none hp7 hN11
                  have h77n : ∀ u t bs, pgM M7 21 300 u t bs 77 = none := fun u t bs => pgM_none hp7 hN77
                  have q1 : ps.length * 16 ≤ 140737488355328 := by omega
                  have q2 : (ps.length : Int) ≤ 9223372036854775807 := by omega
                  have q0 : (0 : Int) ≤ (ps.length : Int) := by omega
                  repeat (first | refine W.seq ?_ | refine W.block ?_ | refine W.skip ?_ | refine W.exit ?_ | refine W.region tab_ok 0 (by decide) (exec_run (by simp only [exa, beq_self_eq_true, ByteArray.size, Nat.reduceAdd, Nat.reduceLeDiff, Nat.reduceEqDiff, Nat.reduceMul, Int.reduceToNat, reduceIte, Int.reduceLE, Int.reduceNeg, hat3, h11n, h77n, List.length_map, Int.toNat_natCast, q1, q2, q0, and_self]; rfl)) ?_)
                  simp only [upd_upd]
                  rw [← pgM_upd (by decide) (by decide)]
                  obtain ⟨M11, hM11d⟩ : ∃ M11, M11 = upd M7 11 (some (.box 62 [.c (.str mty), .c (.str mnm), .c (.sl (ps.map cSlot)), .c (.sl (cStmts bd))])) := ⟨_, rfl⟩
                  rw [← hM11d]
                  have hp11 : PgAt M11 21 300 false 0 [] := by rw [hM11d]; exact hp7.new hN11 rfl
                  have hm11 : ∀ u t bs, pgM M11 21 300 u t bs 11 = some (.box 62 [.c (.str mty), .c (.str mnm), .c (.sl (ps.map cSlot)), .c (.sl (cStmts bd))]) := fun u t bs => by rw [pgM_at (by decide) (by decide), hM11d, upd_same]
                  have hN1 : M11 14 = none ∧ M11 77 = none := by rw [hM11d]; exact ⟨hN14, hN77⟩
                  obtain ⟨hN14', hN77'⟩ := hN1
                  have hf11 : ∀ d, M11 (400 + d) = none := fun d => by rw [hM11d, upd_ne _ _ (by omega)]; exact hf7 d
                  have hv11 : (M11 1).isSome = true ∧ (M11 7).isSome = true ∧ (M11 11).isSome = true := by rw [hM11d]; exact ⟨hv1, hv7, rfl⟩
                  obtain ⟨hv1', hv7', hv11'⟩ := hv11
                  have hWF11 : ∀ u t bs, WFm (pgM M11 21 300 u t bs) := fun u t bs => by
                    rw [hM11d, pgM_upd (by decide) (by decide)]
                    exact mwf_some (hWF7 u t bs) (fun i hi => by simp [O.ids, A.ids] at hi)
                  have off11 : ∀ u t bs, MLe (pgM M11 21 300 u t bs) (pgM M7 21 300 u t bs) := fun u t bs => by
                    rw [hM11d, pgM_upd (by decide) (by decide)]
                    exact mle_off (pgM_none hp7 hN11)
                  clear hM11d
                  have h77m : ∀ u t bs, pgM M11 21 300 u t bs 77 = none := fun u t bs => pgM_none hp11 hN77'
                  have h14n : ∀ u t bs, pgM M11 21 300 u t bs 14 = none := fun u t bs => pgM_none hp11 hN14'
                  refine W.loop (ι := Nat) (fun k4 => ⟨upd (upd (upd (upd (upd (upd (upd (upd (upd (upd (upd (upd (upd (upd (fun _ => .top) 1 (.ptr 1 0)) 5 (.ptr 21 0)) 7 (.ptr 7 0)) 11 (.ptr 11 0)) 12 (.own 77)) 23 (.c (.sl (cs.map cClass)))) 24 (.c (.int .i64 cs.length))) 25 (.c (.int .i64 k))) 68 (.c (.sl (cme.map cMethod)))) 69 (.c (.int .i64 cme.length))) 70 (.c (.int .i64 k3))) 79 (.c (.sl (ps.map cSlot)))) 80 (.c (.int .i64 ps.length))) 81 (.c (.int .i64 k4)), upd (pgM M11 21 300 true 1 B5) 77 (some (.mrow 9 1 (rowP ps k4)))⟩) (fun k4 => k4 ≤ ps.length) (fun k4 => ps.length - k4) 0 ?start4 (Nat.zero_le _) ?round4
                  case start4 =>
                    refine le_mk ?sle ?mle ?swf ?mwf (fun i hi => absurd hi (by rw [hkeep]; exact id)) (by rfl)
                    case swf =>
                      repeat (first | exact swf_top _ | refine swf_upd ?_ (by simp [A.ids, pgM, upd_app, hv1', hv7', hv11']))
                    case mwf => exact mwf_some (hWF11 _ _ _) (fun i hi => by simp [O.ids] at hi)
                    case mle => rw [rowP_zero]; exact mle_refl _
                    case sle =>
                      repeat (first | exact sle_top _ | exact sle_refl _ | refine sle_upd ?_ (by first | rfl | (simp only [upd_app, killS_app, A.kill, entry_zero, entry_succ, Nat.reduceEqDiff, reduceIte, List.length_map]; done)))
                  case round4 =>
                    intro k4 hk4
                    have hrl := rowP_len hk4
                    repeat (first | refine W.seq ?_ | refine W.block ?_ | refine W.skip ?_ | refine W.exit ?_ | refine W.region tab_ok 0 (by decide) (exec_run (by simp only [exa, beq_self_eq_true, ByteArray.size, Nat.reduceAdd, Nat.reduceLeDiff, Nat.reduceEqDiff, Nat.reduceMul, Int.reduceToNat, reduceIte, Int.reduceLE, Int.reduceNeg]; rfl)) ?_)
                    refine W.cond rfl ?_ ?_
                    · intro hlt4
                      simp only [decide_eq_true_eq, Int.ofNat_lt] at hlt4
                      obtain ⟨f, hxk4⟩ : ∃ f, ps[k4]? = some f := ⟨_, List.getElem?_eq_getElem hlt4⟩
                      have hset := rowP_set hxk4
                      have hat4 := at_map (f := cSlot) hxk4
                      have hfl4 := slotX_len (hpB f (List.mem_of_getElem? hxk4))
                      obtain ⟨fty, fnm⟩ := f
                      obtain ⟨tyl, rfl⟩ : ∃ nl, fty = strX nl := ⟨_, strX_of fty⟩
                      obtain ⟨nml, rfl⟩ : ∃ nl, fnm = strX nl := ⟨_, strX_of fnm⟩
                      have hsx : slotX ⟨strX tyl, strX nml⟩ = tyl ++ [32] ++ nml := by simp [slotX, strX]
                      rw [hsx] at hset hfl4
                      simp only [List.length_append, List.length_cons, List.length_nil] at hfl4
                      simp only [cSlot] at hat4
                      repeat (first | refine W.seq ?_ | refine W.block ?_ | refine W.skip ?_ | refine W.exit ?_ | refine W.region tab_ok 0 (by decide) (exec_run (by simp only [exa, beq_self_eq_true, ByteArray.size, Nat.reduceAdd, Nat.reduceLeDiff, Nat.reduceEqDiff, Nat.reduceMul, Int.reduceToNat, reduceIte, Int.reduceLE, Int.reduceNeg, hat4, h14n]; rfl)) ?_)
                      have k40 : (0 : Int) ≤ (k4 : Int) := by omega
                      refine W.regionK tab_ok 0 (by decide) ?_
                      refine runk_exec (by simp (disch := omega) only [exa, beq_self_eq_true, ByteArray.size, Nat.reduceAdd, Nat.reduceLeDiff, Nat.reduceEqDiff, Nat.reduceMul, Int.reduceToNat, reduceIte, Int.reduceLE, Int.reduceNeg, app_bytes, if_le, List.length_append, List.length_cons, List.length_nil, Int.toNat_natCast, hrl, hlt4, k40, and_self, rowP_at hlt4, List.drop_succ_cons, List.drop_nil, hset, if_true]; rfl) ?_
                      repeat (first | refine W.seq ?_ | refine W.block ?_ | refine W.skip ?_ | refine W.exit ?_ | refine W.region tab_ok 0 (by decide) (exec_run (by simp only [exa, beq_self_eq_true, ByteArray.size, Nat.reduceAdd, Nat.reduceLeDiff, Nat.reduceEqDiff, Nat.reduceMul, Int.reduceToNat, reduceIte, Int.reduceLE, Int.reduceNeg]; rfl)) ?_)
                      refine ⟨k4 + 1, hlt4, by omega, ?_⟩
                      refine le_mk ?sle ?mle ?swf ?mwf (fun i hi => absurd hi (by rw [hkeep]; exact id)) (by rfl)
                      case swf =>
                        repeat (first | exact swf_top _ | refine swf_upd ?_ (by simp [A.ids, pgM, upd_app, hv1', hv7', hv11']))
                      case mwf => exact mwf_some (hWF11 _ _ _) (fun i hi => by simp [O.ids] at hi)
                      case mle =>
                        intro i
                        by_cases e1 : i = 77
                        · subst e1; exact .inr rfl
                        by_cases e2 : i = 14
                        · subst e2; exact .inl (by simp only [upd_app, Nat.reduceEqDiff, if_false]; exact h14n _ _ _)
                        · exact .inr (by simp only [upd_app, e1, e2, if_false])
                      case sle =>
                        repeat (first | exact sle_top _ | exact sle_refl _ | refine sle_upd ?_ (by first | rfl | (simp only [upd_app, killS_app, A.kill, entry_zero, entry_succ, Nat.reduceEqDiff, reduceIte, wrap_succ (show k4 + 1 < 9223372036854775808 by omega)]; done)))
                    · intro hge4
                      simp only [decide_eq_false_iff_not, Int.ofNat_lt] at hge4
                      obtain rfl : k4 = ps.length := by omega
                      rw [rowP_all]
                      rw [← pgM_upd (by decide) (by decide)]
                      obtain ⟨M77, hM77d⟩ : ∃ M77, M77 = upd M11 77 (some (.mrow 9 1 ((ps.map fun s => (⟨(slotX s).toArray⟩ : ByteArray)).map cStr))) := ⟨_, rfl⟩
                      rw [← hM77d]
                      have hp77 : PgAt M77 21 300 false 0 [] := by rw [hM77d]; exact hp11.new hN77' rfl
                      have hm77 : ∀ u t bs, pgM M77 21 300 u t bs 11 = some (.box 62 [.c (.str mty), .c (.str mnm), .c (.sl (ps.map cSlot)), .c (.sl (cStmts bd))]) := fun u t bs => by
                        rw [pgM_at (by decide) (by decide), hM77d, upd_ne _ _ (by decide)]
                        have := hm11 true 0 []
                        rwa [pgM_at (by decide) (by decide)] at this
                      have hr77 : ∀ u t bs, pgM M77 21 300 u t bs 77 = some (.mrow 9 1 ((ps.map fun s => (⟨(slotX s).toArray⟩ : ByteArray)).map cStr)) := fun u t bs => by rw [pgM_at (by decide) (by decide), hM77d, upd_same]
                      have hf77 : ∀ d, M77 (400 + d) = none := fun d => by rw [hM77d, upd_ne _ _ (by omega)]; exact hf11 d
                      have off77 : ∀ u t bs, MLe (pgM M77 21 300 u t bs) (pgM M11 21 300 u t bs) := fun u t bs => by
                        rw [hM77d, pgM_upd (by decide) (by decide)]
                        exact mle_off (pgM_none hp11 hN77')
                      clear hM77d
                      have hjl : (ps.map fun s => (⟨(slotX s).toArray⟩ : ByteArray)).map (fun s => s.data.toList) = ps.map slotX := by rw [List.map_map]; exact List.map_congr_left fun s _ => by simp
                      have hjo := fun m => join_ok (ps.map fun s => (⟨(slotX s).toArray⟩ : ByteArray)) (by rw [List.length_map]; omega) (by rw [hjl, hCX]; omega) m
                      rw [hjl, hCX] at hjo
                      have hli := line1 (hp77.pgM (u' := true) (t' := 1) (bs' := B5)) [mty, ⟨#[32]⟩, mnm, ⟨#[40]⟩, ⟨CX.toArray⟩, ⟨#[41, 32]⟩] (by simp) (by omega)
                      rw [pgM_pgM (by decide)] at hli
                      obtain ⟨B6, hB6⟩ : ∃ B6, B5 ++ [9] ++ txtB [mty, ⟨#[32]⟩, mnm, ⟨#[40]⟩, ⟨CX.toArray⟩, ⟨#[41, 32]⟩] = B6 := ⟨_, rfl⟩
                      have hl6 : B6.length = B5.length + 1 + (txtB [mty, ⟨#[32]⟩, mnm, ⟨#[40]⟩, ⟨CX.toArray⟩, ⟨#[41, 32]⟩]).length := by rw [← hB6, List.length_append, List.length_append]; rfl
                      rw [hB6] at hli
                      have ht10 : (txtB [(⟨#[10]⟩ : ByteArray)]).length = 1 := rfl
                      have hl7 : (B6 ++ brcX 1 (stmtsX bd 2)).length + 1 ≤ 10000000000000 := by rw [List.length_append]; omega
                      have hmS : ∀ x ∈ bd, StmtAt x := fun x hx => stmt_at _ x (Nat.le_refl _) (hbB x hx) (by have := cntS_mem hx; omega)
                      have hbdl := cntSs_len bd
                      have hbk := block1 (hp77.pgM (u' := true) (t' := 1) (bs' := B6)) (b := 400) (fun d => pgM_none hp77 (hf77 d)) bd hmS (by omega) (by omega)
                      rw [pgM_pgM (by decide)] at hbk
                      (repeat (first | refine W.seq ?_ | refine W.block ?_ | refine W.skip ?_ | refine W.exit ?_))
                      refine W.regionDK tab_ok 0 follows_mixed (by kernel_rfl) (by decide) ?_
                      refine runk_split 6 (by simp only [exa, beq_self_eq_true, ByteArray.size, Nat.reduceAdd, Nat.reduceLeDiff, Nat.reduceEqDiff, Nat.reduceMul, Int.reduceToNat, reduceIte, Int.reduceLE, Int.reduceNeg, hm77]; rfl) ?_
                      refine runk_callR rfl rfl rfl rfl rfl (by simp) (cvrs_cons (cvr_row (hr77 true 1 B5)) (cvrs_cons cvr_refl cvrs_nil)) (by rfl) (by rfl) hjo ?_
                      refine runk_split 1 (by simp only [exa, beq_self_eq_true, ByteArray.size, Nat.reduceAdd, Nat.reduceLeDiff, Nat.reduceEqDiff, Nat.reduceMul, Int.reduceToNat, reduceIte, Int.reduceLE, Int.reduceNeg, killS_app, A.kill, Nat.reduceEqDiff, if_false, reduceIte, hm77]; rfl) ?_
                      refine runk_callE (D := [300]) rfl rfl rfl rfl rfl (fun i hi => by rw [hkeep]; exact id) (by simp) (by first | exact cvs_cons cv_refl (cvs_cons cv_refl cvs_nil) | exact cvs_cons cv_refl cvs_nil) hli ?_
                      simp only [killL, putS]
                      refine runk_exec (by simp only [exa, beq_self_eq_true, ByteArray.size, Nat.reduceAdd, Nat.reduceLeDiff, Nat.reduceEqDiff, Nat.reduceMul, Int.reduceToNat, reduceIte, Int.reduceLE, Int.reduceNeg]; rfl) ?_
                      (repeat (first | refine W.seq ?_ | refine W.block ?_ | refine W.skip ?_ | refine W.exit ?_))
                      refine W.regionK tab_ok 0 (by decide) ?_
                      refine runk_split 3 (by simp only [exa, beq_self_eq_true, ByteArray.size, Nat.reduceAdd, Nat.reduceLeDiff, Nat.reduceEqDiff, Nat.reduceMul, Int.reduceToNat, reduceIte, Int.reduceLE, Int.reduceNeg, killS_app, A.kill, Nat.reduceEqDiff, if_false, reduceIte, hm77]; rfl) ?_
                      refine runk_callE (D := [300]) rfl rfl rfl rfl rfl (fun i hi => by rw [hkeep]; exact id) (by simp) (by first | exact cvs_cons cv_refl (cvs_cons cv_refl cvs_nil) | exact cvs_cons cv_refl cvs_nil) hbk ?_
                      simp only [killL, putS]
                      refine runk_exec (by simp only [exa, beq_self_eq_true, ByteArray.size, Nat.reduceAdd, Nat.reduceLeDiff, Nat.reduceEqDiff, Nat.reduceMul, Int.reduceToNat, reduceIte, Int.reduceLE, Int.reduceNeg]; rfl) ?_
                      (repeat (first | refine W.seq ?_ | refine W.block ?_ | refine W.skip ?_ | refine W.exit ?_))
                      refine W.regionK tab_ok 0 (by decide) ?_
                      have hly := lay_ok (hp77.pgM (u' := true) (t' := 1) (bs' := B6 ++ brcX 1 (stmtsX bd 2))) [⟨#[10]⟩] (by decide) (by rw [ht10]; omega)
                      rw [pgM_pgM (by decide), show layU true [(⟨#[10]⟩ : ByteArray)] = true from rfl] at hly
                      refine runk_split 2 (by simp only [exa, beq_self_eq_true, ByteArray.size, Nat.reduceAdd, Nat.reduceLeDiff, Nat.reduceEqDiff, Nat.reduceMul, Int.reduceToNat, reduceIte, Int.reduceLE, Int.reduceNeg, killS_app, A.kill, Nat.reduceEqDiff, if_false, reduceIte]; rfl) ?_
                      refine runk_callE (D := [300]) rfl rfl rfl rfl rfl (fun i hi => by rw [hkeep]; exact id) (by simp) (by first | exact cvs_cons cv_refl (cvs_cons cv_refl cvs_nil) | exact cvs_cons cv_refl cvs_nil) hly ?_
                      simp only [killL, putS]
                      refine runk_exec (by simp only [exa, beq_self_eq_true, ByteArray.size, Nat.reduceAdd, Nat.reduceLeDiff, Nat.reduceEqDiff, Nat.reduceMul, Int.reduceToNat, reduceIte, Int.reduceLE, Int.reduceNeg]; rfl) ?_
                      repeat (first | refine W.seq ?_ | refine W.block ?_ | refine W.skip ?_ | refine W.exit ?_ | refine W.region tab_ok 0 (by decide) (exec_run (by simp only [exa, beq_self_eq_true, ByteArray.size, Nat.reduceAdd, Nat.reduceLeDiff, Nat.reduceEqDiff, Nat.reduceMul, Int.reduceToNat, reduceIte, Int.reduceLE, Int.reduceNeg, killS_app, A.kill, Nat.reduceEqDiff, if_false, reduceIte]; rfl)) ?_)
                      refine ⟨k3 + 1, hlt3, by omega, ?_⟩
                      refine le_mk ?sle ?mle ?swf ?mwf (fun i hi => absurd hi (by rw [hkeep]; exact id)) (by rfl)
                      case swf =>
                        repeat (first | exact swf_top _ | refine swf_upd ?_ (by simp [A.ids, pgM, upd_app, hv1, hv7]))
                      case mwf => exact hWF7 _ _ _
                      case mle =>
                        refine mle_eq (congrArg (pgM M7 21 300 true 1) ?_) (fun i => ?_) (a := pgM M7 21 300 true 1 (B6 ++ brcX 1 (stmtsX bd 2) ++ txtB [⟨#[10]⟩]))
                        · rw [htk3, ← hB6, ← hB5]; simp [List.append_assoc]
                        · rcases off11 true 1 (B6 ++ brcX 1 (stmtsX bd 2) ++ txtB [⟨#[10]⟩]) i with e | e
                          · exact .inl e
                          · rcases off77 true 1 (B6 ++ brcX 1 (stmtsX bd 2) ++ txtB [⟨#[10]⟩]) i with e2 | e2
                            · exact .inl (e.trans e2)
                            · exact .inr (e.trans e2)
                      case sle =>
                        repeat (first | exact sle_top _ | exact sle_refl _ | refine sle_upd ?_ (by first | rfl | (simp only [upd_app, killS_app, A.kill, entry_zero, entry_succ, Nat.reduceEqDiff, reduceIte, wrap_succ (show k3 + 1 < 9223372036854775808 by omega)]; done)))
                · intro hge3
                  simp only [decide_eq_false_iff_not, Int.ofNat_lt] at hge3
                  obtain rfl : k3 = cme.length := by omega
                  rw [List.take_length, hMX]
                  repeat (first | refine W.seq ?_ | refine W.block ?_ | refine W.skip ?_ | refine W.exit ?_ | refine W.region tab_ok 0 (by decide) (exec_run (by simp only [exa, beq_self_eq_true, ByteArray.size, Nat.reduceAdd, Nat.reduceLeDiff, Nat.reduceEqDiff, Nat.reduceMul, Int.reduceToNat, reduceIte, Int.reduceLE, Int.reduceNeg, hpj7, hw2]; rfl)) ?_)
                  rw [tab_up (by decide)]
                  obtain ⟨B9, hB9⟩ : ∃ B9, B3 ++ FX ++ MX = B9 := ⟨_, rfl⟩
                  have hl9 : B9.length = B3.length + FX.length + MX.length := by rw [← hB9, List.length_append, List.length_append]
                  rw [hB9]
                  (repeat (first | refine W.seq ?_ | refine W.block ?_ | refine W.skip ?_ | refine W.exit ?_))
                  refine W.regionK tab_ok 0 (by decide) ?_
                  refine runk_split 2 (by simp only [exa, beq_self_eq_true, ByteArray.size, Nat.reduceAdd, Nat.reduceLeDiff, Nat.reduceEqDiff, Nat.reduceMul, Int.reduceToNat, reduceIte, Int.reduceLE, Int.reduceNeg, killS_app, A.kill, Nat.reduceEqDiff, if_false, reduceIte]; rfl) ?_
                  refine runk_callE (D := [300]) rfl rfl rfl rfl rfl (fun i hi => by rw [hkeep]; exact id) (by simp) (by first | exact cvs_cons cv_refl (cvs_cons cv_refl cvs_nil) | exact cvs_cons cv_refl cvs_nil) (layM hp7 true B9 [⟨#[125, 10]⟩] (by simp) (by simp) (by simp [txtB]; omega)) ?_
                  simp only [killL, putS]
                  refine runk_exec (by simp only [exa, beq_self_eq_true, ByteArray.size, Nat.reduceAdd, Nat.reduceLeDiff, Nat.reduceEqDiff, Nat.reduceMul, Int.reduceToNat, reduceIte, Int.reduceLE, Int.reduceNeg]; rfl) ?_
                  repeat (first | refine W.seq ?_ | refine W.block ?_ | refine W.skip ?_ | refine W.exit ?_ | refine W.region tab_ok 0 (by decide) (exec_run (by simp only [exa, beq_self_eq_true, ByteArray.size, Nat.reduceAdd, Nat.reduceLeDiff, Nat.reduceEqDiff, Nat.reduceMul, Int.reduceToNat, reduceIte, Int.reduceLE, Int.reduceNeg, killS_app, A.kill, Nat.reduceEqDiff, if_false, reduceIte]; rfl)) ?_)
                  refine ⟨k + 1, hlt, by omega, ?_⟩
                  rw [show decide (0 < k + 1) = true by simp]
                  refine le_mk ?sle ?mle ?swf ?mwf (fun i hi => absurd hi (by rw [hkeep]; exact id)) (by rfl)
                  case swf =>
                    repeat (first | exact swf_top _ | refine swf_upd ?_ (by simp [A.ids, pgM, upd_app, hM1]))
                  case mwf => exact hWF _ _ _
                  case mle => exact mle_eq (congrArg (pgM M 21 300 true 0) (by rw [htk, ← hB9, ← hB3, ← hB2, ← hB1]; simp [txtB, List.append_assoc])) (off7 _ _ _)
                  case sle =>
                    repeat (first | exact sle_top _ | exact sle_refl _ | refine sle_upd ?_ (by first | rfl | (simp only [upd_app, killS_app, A.kill, entry_zero, entry_succ, Nat.reduceEqDiff, reduceIte, wrap_succ (show k + 1 < 9223372036854775808 by omega)]; done)))
      · intro hge
        simp only [decide_eq_false_iff_not, Int.ofNat_lt] at hge
        obtain rfl : k = cs.length := by omega
        rw [List.take_length]
        obtain ⟨u0, hu0⟩ : ∃ u0, decide (0 < cs.length) = u0 := ⟨_, rfl⟩
        obtain ⟨B0, hB0⟩ : ∃ B0, cs.flatMap classX = B0 := ⟨_, rfl⟩
        rw [hu0, hB0]
        rw [hB0] at hpl
        have hmS : ∀ x ∈ mn, StmtAt x := fun x hx => stmt_at _ x (Nat.le_refl _) (hbM x hx) (by have := cntS_mem hx; omega)
        have hml := cntSs_len mn
        repeat (first | refine W.seq ?_ | refine W.block ?_ | refine W.skip ?_ | refine W.exit ?_ | refine W.region tab_ok 0 (by decide) (exec_run (by simp only [exa, beq_self_eq_true, ByteArray.size, Nat.reduceAdd, Nat.reduceLeDiff, Nat.reduceEqDiff, Nat.reduceMul, Int.reduceToNat, reduceIte, Int.reduceLE, Int.reduceNeg]; rfl)) ?_)
        (repeat (first | refine W.seq ?_ | refine W.block ?_ | refine W.skip ?_ | refine W.exit ?_))
        refine W.regionK tab_ok 0 (by decide) ?_
        refine runk_split 2 (by simp only [exa, beq_self_eq_true, ByteArray.size, Nat.reduceAdd, Nat.reduceLeDiff, Nat.reduceEqDiff, Nat.reduceMul, Int.reduceToNat, reduceIte, Int.reduceLE, Int.reduceNeg, killS_app, A.kill, Nat.reduceEqDiff, if_false, reduceIte]; rfl) ?_
        refine runk_callE (D := [300]) rfl rfl rfl rfl rfl (fun i hi => by rw [hkeep]; exact id) (by simp) (by first | exact cvs_cons cv_refl (cvs_cons cv_refl cvs_nil) | exact cvs_cons cv_refl cvs_nil) (layM hp u0 B0 [⟨#[109, 97, 105, 110, 32]⟩] (by simp) (by simp) (by simp [txtB]; omega)) ?_
        simp only [killL, putS]
        refine runk_exec (by simp only [exa, beq_self_eq_true, ByteArray.size, Nat.reduceAdd, Nat.reduceLeDiff, Nat.reduceEqDiff, Nat.reduceMul, Int.reduceToNat, reduceIte, Int.reduceLE, Int.reduceNeg]; rfl) ?_
        have hb0 := block0 (hp.pgM (u' := true) (t' := 0) (bs' := B0 ++ txtB [⟨#[109, 97, 105, 110, 32]⟩])) (b := 400) (fun d => pgM_none hp (hf d)) mn hmS (by omega) (by simp [txtB]; omega)
        rw [pgM_pgM (by decide)] at hb0
        (repeat (first | refine W.seq ?_ | refine W.block ?_ | refine W.skip ?_ | refine W.exit ?_))
        refine W.regionK tab_ok 0 (by decide) ?_
        refine runk_split 3 (by simp only [exa, beq_self_eq_true, ByteArray.size, Nat.reduceAdd, Nat.reduceLeDiff, Nat.reduceEqDiff, Nat.reduceMul, Int.reduceToNat, reduceIte, Int.reduceLE, Int.reduceNeg, killS_app, A.kill, Nat.reduceEqDiff, if_false, reduceIte, hpj]; rfl) ?_
        refine runk_callE (D := [300]) rfl rfl rfl rfl rfl (fun i hi => by rw [hkeep]; exact id) (by simp) (by first | exact cvs_cons cv_refl (cvs_cons cv_refl cvs_nil) | exact cvs_cons cv_refl cvs_nil) hb0 ?_
        simp only [killL, putS]
        refine runk_exec (by simp only [exa, beq_self_eq_true, ByteArray.size, Nat.reduceAdd, Nat.reduceLeDiff, Nat.reduceEqDiff, Nat.reduceMul, Int.reduceToNat, reduceIte, Int.reduceLE, Int.reduceNeg]; rfl) ?_
        (repeat (first | refine W.seq ?_ | refine W.block ?_ | refine W.skip ?_ | refine W.exit ?_))
        refine W.regionK tab_ok 0 (by decide) ?_
        refine runk_split 2 (by simp only [exa, beq_self_eq_true, ByteArray.size, Nat.reduceAdd, Nat.reduceLeDiff, Nat.reduceEqDiff, Nat.reduceMul, Int.reduceToNat, reduceIte, Int.reduceLE, Int.reduceNeg, killS_app, A.kill, Nat.reduceEqDiff, if_false, reduceIte]; rfl) ?_
        refine runk_callE (D := [300]) rfl rfl rfl rfl rfl (fun i hi => by rw [hkeep]; exact id) (by simp) (by first | exact cvs_cons cv_refl (cvs_cons cv_refl cvs_nil) | exact cvs_cons cv_refl cvs_nil) (layM hp true (B0 ++ txtB [⟨#[109, 97, 105, 110, 32]⟩] ++ brcX 0 (stmtsX mn 1)) [⟨#[10]⟩] (by simp) (by simp) (by simp [txtB]; omega)) ?_
        simp only [killL, putS]
        refine runk_exec (by simp only [exa, beq_self_eq_true, ByteArray.size, Nat.reduceAdd, Nat.reduceLeDiff, Nat.reduceEqDiff, Nat.reduceMul, Int.reduceToNat, reduceIte, Int.reduceLE, Int.reduceNeg]; rfl) ?_
        have hPX : B0 ++ txtB [⟨#[109, 97, 105, 110, 32]⟩] ++ brcX 0 (stmtsX mn 1) ++ txtB [⟨#[10]⟩] = progX ⟨cs, mn⟩ := by rw [← hB0]; simp [txtB, progX, List.append_assoc]
        rw [hPX]
        have hd := done_ok (hp.pgM (u' := true) (t' := 0) (bs' := progX ⟨cs, mn⟩)) (by simp [progX]) (by omega)
        (repeat (first | refine W.seq ?_ | refine W.block ?_ | refine W.skip ?_ | refine W.exit ?_))
        refine W.regionK tab_ok 0 (by decide) ?_
        refine runk_split 1 (by simp only [exa, beq_self_eq_true, ByteArray.size, Nat.reduceAdd, Nat.reduceLeDiff, Nat.reduceEqDiff, Nat.reduceMul, Int.reduceToNat, reduceIte, Int.reduceLE, Int.reduceNeg, killS_app, A.kill, Nat.reduceEqDiff, if_false, reduceIte]; rfl) ?_
        refine runk_callE (D := []) rfl rfl rfl rfl rfl (fun j hj => by simp at hj) (by simp) (cvs_cons cv_refl cvs_nil) hd ?_
        simp only [killL, putS]
        unfold pgDoneR
        by_cases hl : 8192 < (progX ⟨cs, mn⟩).length
        · rw [if_pos hl]
          refine runk_exec (by simp only [exa, beq_self_eq_true, ByteArray.size, Nat.reduceAdd, Nat.reduceLeDiff, Nat.reduceEqDiff, Nat.reduceMul, Int.reduceToNat, reduceIte, Int.reduceLE, Int.reduceNeg]; rfl) ?_
          repeat (first | refine W.seq ?_ | refine W.block ?_ | refine W.skip ?_ | refine W.exit ?_ | refine W.region tab_ok 0 (by decide) (exec_run (by simp only [exa, beq_self_eq_true, ByteArray.size, Nat.reduceAdd, Nat.reduceLeDiff, Nat.reduceEqDiff, Nat.reduceMul, Int.reduceToNat, reduceIte, Int.reduceLE, Int.reduceNeg]; rfl)) ?_)
          refine W.ret ⟨.inr rfl, by rfl, ?_⟩
          simp only [Tryd.f10, resA, resOne, toT, fin, exa, beq_self_eq_true, ByteArray.size, Nat.reduceAdd, Nat.reduceLeDiff, Nat.reduceEqDiff, Nat.reduceMul, Int.reduceToNat, reduceIte, Int.reduceLE, Int.reduceNeg]
          simp [textP, hb, hl]
        · rw [if_neg hl]
          refine runk_exec (by simp only [exa, beq_self_eq_true, ByteArray.size, Nat.reduceAdd, Nat.reduceLeDiff, Nat.reduceEqDiff, Nat.reduceMul, Int.reduceToNat, reduceIte, Int.reduceLE, Int.reduceNeg]; rfl) ?_
          repeat (first | refine W.seq ?_ | refine W.block ?_ | refine W.skip ?_ | refine W.exit ?_ | refine W.region tab_ok 0 (by decide) (exec_run (by simp only [exa, beq_self_eq_true, ByteArray.size, Nat.reduceAdd, Nat.reduceLeDiff, Nat.reduceEqDiff, Nat.reduceMul, Int.reduceToNat, reduceIte, Int.reduceLE, Int.reduceNeg]; rfl)) ?_)
          refine W.ret ⟨.inr rfl, by rfl, ?_⟩
          simp only [Tryd.f10, resA, resOne, toT, fin, exa, beq_self_eq_true, ByteArray.size, Nat.reduceAdd, Nat.reduceLeDiff, Nat.reduceEqDiff, Nat.reduceMul, Int.reduceToNat, reduceIte, Int.reduceLE, Int.reduceNeg]
          simp [textP, hb, hl]
end V
end Go.Proofs.YtbmbmcdaabhgnaaDoor
end
section
set_option linter.unusedVariables false
set_option linter.unusedSimpArgs false
namespace Go.Proofs.YtbmbmcdaabhgnaaDoor
namespace V
open Go.RowKit
theorem one_of {kids : List Expr} (h1 : (1 : Int) ≤ (kids.length : Int)) (h2 : (kids.length : Int) ≤ 1) : ∃ y, kids = [y] := by
  match kids, (by omega : kids.length = 1) with
  | [y], _ => exact ⟨y, rfl⟩
theorem two_of {kids : List Expr} (h1 : (2 : Int) ≤ (kids.length : Int)) (h2 : (kids.length : Int) ≤ 2) : ∃ y y2, kids = [y, y2] := by
  match kids, (by omega : kids.length = 2) with
  | [y, y2], _ => exact ⟨y, y2, rfl⟩
theorem rowsE : ∀ (l : List Expr), ∀ x ∈ cExprs l, x.length = 4
  | [], x, h => by simp [cExprs] at h
  | y :: l, x, h => by
    simp only [cExprs, List.mem_cons] at h
    rcases h with rfl | h
    · cases y; rfl
    · exact rowsE l x h
theorem five_of {kids : List Expr} (h1 : (1 : Int) ≤ (kids.length : Int)) (h2 : (kids.length : Int) ≤ 5) : ∃ y r, kids = y :: r ∧ r.length ≤ 100 := by
  match kids, h1 with
  | y :: r, _ => exact ⟨y, r, rfl, by simp at h2; omega⟩
theorem cntE_mem : ∀ {l : List Expr} {y : Expr}, y ∈ l → cntE y ≤ cntEs l
  | x :: l, y, h => by
    simp only [cntEs]
    rcases List.mem_cons.1 h with rfl | h
    · omega
    · have := cntE_mem h; omega
set_option maxHeartbeats 8000000 in
theorem text_ok : ∀ (z : Nat) (x : Expr), SizeOf.sizeOf x ≤ z → exprB x = true → cntE x ≤ 1048576 → ∀ m, COk Tryd.prog 19 [.agg (cExpr x)] m (.c (.str (strX (textX x)))) := by
  intro z
  induction z using Nat.strongRecOn with
  | ind z ih =>
  intro x hz hx hc m
  have hfit := textX_len x hx
  obtain ⟨k, n, nm, kids⟩ := x
  obtain ⟨nl, rfl⟩ : ∃ nl, nm = strX nl := ⟨_, strX_of nm⟩
  rw [exprB_eq] at hx
  obtain ⟨htop, hkids⟩ := Bool.and_eq_true_iff.1 hx
  have hA : ∀ y ∈ kids, ∀ (want : Int) (m : Mem), COk Tryd.prog 46 [.agg (cExpr y), .c (.int .i64 want)] m (.c (.str (strX (exprX y want)))) := fun y hy => by
    have hb := List.all_eq_true.1 hkids y hy
    have hcy : cntE y ≤ 1048576 := by
      have := cntE_mem hy
      simp only [cntE] at hc
      omega
    exact at_ok hb hcy (ih (SizeOf.sizeOf y) (by
      have h1 := List.sizeOf_lt_of_mem hy
      have h2 := Expr.mk.sizeOf_spec k n (strX nl) kids
      omega) y (Nat.le_refl _) hb hcy)
  rw [exprTop_eq] at htop
  simp only [Bool.and_eq_true, decide_eq_true_eq] at htop
  obtain ⟨⟨⟨⟨⟨hkk, hlo⟩, hhi⟩, hn0⟩, hn1⟩, hnm⟩ := htop
  have hk : 1 ≤ k ∧ k ≤ 18 := by
    by_cases hk : 1 ≤ k ∧ k ≤ 18
    · exact hk
    · unfold shapeOf at hkk; rw [if_neg hk] at hkk; cases hkk
  have hfit : (textX ⟨k, n, strX nl, kids⟩).length ≤ 100000000 := by omega
  clear hnm hx hkids ih hz hc hkk
  simp only [cExpr]
  have hcase : k = 1 ∨ k = 2 ∨ k = 3 ∨ k = 4 ∨ k = 5 ∨ k = 6 ∨ k = 7 ∨ k = 8 ∨ k = 9 ∨ k = 10 ∨ k = 11 ∨ k = 12 ∨ k = 13 ∨ k = 14 ∨ k = 15 ∨ k = 16 ∨ k = 17 ∨ k = 18 := by omega
  rcases hcase with rfl | rfl | rfl | rfl | rfl | rfl | rfl | rfl | rfl | rfl | rfl | rfl | rfl | rfl | rfl | rfl | rfl | rfl
  · have hT : textX ⟨1, n, strX nl, kids⟩ = Lib.itoa n := by simp [textX, bodyX]
    rw [hT]
    refine (ok_pure tab_ok Tryd.func19 (by kernel_rfl) rfl rfl (by rfl) (by rfl) (by rfl) (fun R hkeep => ?_) m)
    repeat (first | refine W.seq ?_ | refine W.block ?_ | refine W.skip ?_ | refine W.exit ?_ | refine W.region tab_ok 0 (by decide) (exec_run (by simp only [exa, beq_self_eq_true, ByteArray.size, Nat.reduceAdd, Nat.reduceLeDiff, Nat.reduceEqDiff, Nat.reduceMul, Int.reduceToNat, reduceIte, Int.reduceLE, Int.reduceNeg]; rfl)) ?_)
    refine W.cond rfl (fun _ => ?_) (fun h => absurd h (by decide))
    (repeat (first | refine W.seq ?_ | refine W.block ?_ | refine W.skip ?_ | refine W.exit ?_))
    refine W.regionK tab_ok 0 (by decide) ?_
    refine runk_split 2 (by simp only [exa, beq_self_eq_true, ByteArray.size, Nat.reduceAdd, Nat.reduceLeDiff, Nat.reduceEqDiff, Nat.reduceMul, Int.reduceToNat, reduceIte, Int.reduceLE, Int.reduceNeg]; rfl) ?_
    refine runk_call rfl rfl rfl rfl rfl (by simp) (cvs_cons cv_refl cvs_nil) (num01_ok n hn0 (Int.le_trans hn1 (by decide)) _) ?_
    refine runk_exec (by simp only [exa, beq_self_eq_true, ByteArray.size, Nat.reduceAdd, Nat.reduceLeDiff, Nat.reduceEqDiff, Nat.reduceMul, Int.reduceToNat, reduceIte, Int.reduceLE, Int.reduceNeg]; rfl) ?_
    refine W.ret ⟨.inr rfl, by rfl, ?_⟩
    simp only [Tryd.f19, resA, resOne, toT, fin, exa, beq_self_eq_true, ByteArray.size, Nat.reduceAdd, Nat.reduceLeDiff, Nat.reduceEqDiff, Nat.reduceMul, Int.reduceToNat, reduceIte, Int.reduceLE, Int.reduceNeg]
  · have hT : textX ⟨2, n, strX nl, kids⟩ = [110, 117, 108, 108] := by simp [textX, bodyX]
    rw [hT]
    refine (ok_pure tab_ok Tryd.func19 (by kernel_rfl) rfl rfl (by rfl) (by rfl) (by rfl) (fun R hkeep => ?_) m)
    repeat (first | refine W.seq ?_ | refine W.block ?_ | refine W.skip ?_ | refine W.exit ?_ | refine W.region tab_ok 0 (by decide) (exec_run (by simp only [exa, beq_self_eq_true, ByteArray.size, Nat.reduceAdd, Nat.reduceLeDiff, Nat.reduceEqDiff, Nat.reduceMul, Int.reduceToNat, reduceIte, Int.reduceLE, Int.reduceNeg]; rfl)) ?_)
    iterate 1 (refine W.cond rfl (fun h => absurd h (by decide)) (fun _ => ?_); repeat (first | refine W.seq ?_ | refine W.block ?_ | refine W.skip ?_ | refine W.exit ?_ | refine W.region tab_ok 0 (by decide) (exec_run (by simp only [exa, beq_self_eq_true, ByteArray.size, Nat.reduceAdd, Nat.reduceLeDiff, Nat.reduceEqDiff, Nat.reduceMul, Int.reduceToNat, reduceIte, Int.reduceLE, Int.reduceNeg]; rfl)) ?_))
    refine W.cond rfl (fun _ => ?_) (fun h => absurd h (by decide))
    (repeat (first | refine W.seq ?_ | refine W.block ?_ | refine W.skip ?_ | refine W.exit ?_))
    repeat (first | refine W.seq ?_ | refine W.block ?_ | refine W.skip ?_ | refine W.exit ?_ | refine W.region tab_ok 0 (by decide) (exec_run (by simp only [exa, beq_self_eq_true, ByteArray.size, Nat.reduceAdd, Nat.reduceLeDiff, Nat.reduceEqDiff, Nat.reduceMul, Int.reduceToNat, reduceIte, Int.reduceLE, Int.reduceNeg]; rfl)) ?_)
    refine W.ret ⟨.inr rfl, by rfl, ?_⟩
    simp only [Tryd.f19, resA, resOne, toT, fin, exa, beq_self_eq_true, ByteArray.size, Nat.reduceAdd, Nat.reduceLeDiff, Nat.reduceEqDiff, Nat.reduceMul, Int.reduceToNat, reduceIte, Int.reduceLE, Int.reduceNeg]
  · have hT : textX ⟨3, n, strX nl, kids⟩ = [116, 104, 105, 115] := by simp [textX, bodyX]
    rw [hT]
    refine (ok_pure tab_ok Tryd.func19 (by kernel_rfl) rfl rfl (by rfl) (by rfl) (by rfl) (fun R hkeep => ?_) m)
    repeat (first | refine W.seq ?_ | refine W.block ?_ | refine W.skip ?_ | refine W.exit ?_ | refine W.region tab_ok 0 (by decide) (exec_run (by simp only [exa, beq_self_eq_true, ByteArray.size, Nat.reduceAdd, Nat.reduceLeDiff, Nat.reduceEqDiff, Nat.reduceMul, Int.reduceToNat, reduceIte, Int.reduceLE, Int.reduceNeg]; rfl)) ?_)
    iterate 2 (refine W.cond rfl (fun h => absurd h (by decide)) (fun _ => ?_); repeat (first | refine W.seq ?_ | refine W.block ?_ | refine W.skip ?_ | refine W.exit ?_ | refine W.region tab_ok 0 (by decide) (exec_run (by simp only [exa, beq_self_eq_true, ByteArray.size, Nat.reduceAdd, Nat.reduceLeDiff, Nat.reduceEqDiff, Nat.reduceMul, Int.reduceToNat, reduceIte, Int.reduceLE, Int.reduceNeg]; rfl)) ?_))
    refine W.cond rfl (fun _ => ?_) (fun h => absurd h (by decide))
    (repeat (first | refine W.seq ?_ | refine W.block ?_ | refine W.skip ?_ | refine W.exit ?_))
    repeat (first | refine W.seq ?_ | refine W.block ?_ | refine W.skip ?_ | refine W.exit ?_ | refine W.region tab_ok 0 (by decide) (exec_run (by simp only [exa, beq_self_eq_true, ByteArray.size, Nat.reduceAdd, Nat.reduceLeDiff, Nat.reduceEqDiff, Nat.reduceMul, Int.reduceToNat, reduceIte, Int.reduceLE, Int.reduceNeg]; rfl)) ?_)
    refine W.ret ⟨.inr rfl, by rfl, ?_⟩
    simp only [Tryd.f19, resA, resOne, toT, fin, exa, beq_self_eq_true, ByteArray.size, Nat.reduceAdd, Nat.reduceLeDiff, Nat.reduceEqDiff, Nat.reduceMul, Int.reduceToNat, reduceIte, Int.reduceLE, Int.reduceNeg]
  · have hT : textX ⟨4, n, strX nl, kids⟩ = nl := by simp [textX, bodyX, strX]
    rw [hT]
    refine (ok_pure tab_ok Tryd.func19 (by kernel_rfl) rfl rfl (by rfl) (by rfl) (by rfl) (fun R hkeep => ?_) m)
    repeat (first | refine W.seq ?_ | refine W.block ?_ | refine W.skip ?_ | refine W.exit ?_ | refine W.region tab_ok 0 (by decide) (exec_run (by simp only [exa, beq_self_eq_true, ByteArray.size, Nat.reduceAdd, Nat.reduceLeDiff, Nat.reduceEqDiff, Nat.reduceMul, Int.reduceToNat, reduceIte, Int.reduceLE, Int.reduceNeg]; rfl)) ?_)
    iterate 3 (refine W.cond rfl (fun h => absurd h (by decide)) (fun _ => ?_); repeat (first | refine W.seq ?_ | refine W.block ?_ | refine W.skip ?_ | refine W.exit ?_ | refine W.region tab_ok 0 (by decide) (exec_run (by simp only [exa, beq_self_eq_true, ByteArray.size, Nat.reduceAdd, Nat.reduceLeDiff, Nat.reduceEqDiff, Nat.reduceMul, Int.reduceToNat, reduceIte, Int.reduceLE, Int.reduceNeg]; rfl)) ?_))
    refine W.cond rfl (fun _ => ?_) (fun h => absurd h (by decide))
    (repeat (first | refine W.seq ?_ | refine W.block ?_ | refine W.skip ?_ | refine W.exit ?_))
    repeat (first | refine W.seq ?_ | refine W.block ?_ | refine W.skip ?_ | refine W.exit ?_ | refine W.region tab_ok 0 (by decide) (exec_run (by simp only [exa, beq_self_eq_true, ByteArray.size, Nat.reduceAdd, Nat.reduceLeDiff, Nat.reduceEqDiff, Nat.reduceMul, Int.reduceToNat, reduceIte, Int.reduceLE, Int.reduceNeg]; rfl)) ?_)
    refine W.ret ⟨.inr rfl, by rfl, ?_⟩
    simp only [Tryd.f19, resA, resOne, toT, fin, exa, beq_self_eq_true, ByteArray.size, Nat.reduceAdd, Nat.reduceLeDiff, Nat.reduceEqDiff, Nat.reduceMul, Int.reduceToNat, reduceIte, Int.reduceLE, Int.reduceNeg]
  · have hT : textX ⟨5, n, strX nl, kids⟩ = [110, 101, 119, 32] ++ nl ++ [40, 41] := by simp [textX, bodyX, strX]
    rw [hT] at hfit ⊢
    simp only [List.length_append, List.length_cons, List.length_nil] at hfit
    refine (ok_pure tab_ok Tryd.func19 (by kernel_rfl) rfl rfl (by rfl) (by rfl) (by rfl) (fun R hkeep => ?_) m)
    repeat (first | refine W.seq ?_ | refine W.block ?_ | refine W.skip ?_ | refine W.exit ?_ | refine W.region tab_ok 0 (by decide) (exec_run (by simp only [exa, beq_self_eq_true, ByteArray.size, Nat.reduceAdd, Nat.reduceLeDiff, Nat.reduceEqDiff, Nat.reduceMul, Int.reduceToNat, reduceIte, Int.reduceLE, Int.reduceNeg]; rfl)) ?_)
    iterate 4 (refine W.cond rfl (fun h => absurd h (by decide)) (fun _ => ?_); repeat (first | refine W.seq ?_ | refine W.block ?_ | refine W.skip ?_ | refine W.exit ?_ | refine W.region tab_ok 0 (by decide) (exec_run (by simp only [exa, beq_self_eq_true, ByteArray.size, Nat.reduceAdd, Nat.reduceLeDiff, Nat.reduceEqDiff, Nat.reduceMul, Int.reduceToNat, reduceIte, Int.reduceLE, Int.reduceNeg]; rfl)) ?_))
    refine W.cond rfl (fun _ => ?_) (fun h => absurd h (by decide))
    (repeat (first | refine W.seq ?_ | refine W.block ?_ | refine W.skip ?_ | refine W.exit ?_))
    refine W.regionK tab_ok 0 (by decide) ?_
    refine runk_exec (by simp (disch := omega) only [exa, beq_self_eq_true, ByteArray.size, Nat.reduceAdd, Nat.reduceLeDiff, Nat.reduceEqDiff, Nat.reduceMul, Int.reduceToNat, reduceIte, Int.reduceLE, Int.reduceNeg, app_bytes, if_le, List.length_append, List.length_cons, List.length_nil]; rfl) ?_
    refine W.ret ⟨.inr rfl, by rfl, ?_⟩
    simp only [Tryd.f19, resA, resOne, toT, fin, exa, beq_self_eq_true, ByteArray.size, Nat.reduceAdd, Nat.reduceLeDiff, Nat.reduceEqDiff, Nat.reduceMul, Int.reduceToNat, reduceIte, Int.reduceLE, Int.reduceNeg]
  · obtain ⟨⟨yk, yn, ym, ys⟩, rfl⟩ : ∃ y, kids = [y] := one_of hlo hhi
    have hT : textX ⟨6, n, strX nl, [⟨yk, yn, ym, ys⟩]⟩ = [110, 101, 119, 32, 105, 110, 116, 91] ++ exprX ⟨yk, yn, ym, ys⟩ 1 ++ [93] := by rw [textX_eq]; rfl
    have hy := hA ⟨yk, yn, ym, ys⟩ (by simp) 1
    rw [hT] at hfit ⊢
    simp only [List.length_append, List.length_cons, List.length_nil] at hfit
    obtain ⟨Y, hY⟩ : ∃ Y, exprX ⟨yk, yn, ym, ys⟩ 1 = Y := ⟨_, rfl⟩
    rw [hY] at hy hfit ⊢
    clear hY hT hA
    simp only [cExpr, cExprs] at hy ⊢
    refine (ok_pure tab_ok Tryd.func19 (by kernel_rfl) rfl rfl (by rfl) (by rfl) (by rfl) (fun R hkeep => ?_) m)
    repeat (first | refine W.seq ?_ | refine W.block ?_ | refine W.skip ?_ | refine W.exit ?_ | refine W.region tab_ok 0 (by decide) (exec_run (by simp only [exa, beq_self_eq_true, ByteArray.size, Nat.reduceAdd, Nat.reduceLeDiff, Nat.reduceEqDiff, Nat.reduceMul, Int.reduceToNat, reduceIte, Int.reduceLE, Int.reduceNeg]; rfl)) ?_)
    iterate 5 (refine W.cond rfl (fun h => absurd h (by decide)) (fun _ => ?_); repeat (first | refine W.seq ?_ | refine W.block ?_ | refine W.skip ?_ | refine W.exit ?_ | refine W.region tab_ok 0 (by decide) (exec_run (by simp only [exa, beq_self_eq_true, ByteArray.size, Nat.reduceAdd, Nat.reduceLeDiff, Nat.reduceEqDiff, Nat.reduceMul, Int.reduceToNat, reduceIte, Int.reduceLE, Int.reduceNeg]; rfl)) ?_))
    refine W.cond rfl (fun _ => ?_) (fun h => absurd h (by decide))
    (repeat (first | refine W.seq ?_ | refine W.block ?_ | refine W.skip ?_ | refine W.exit ?_))
    refine W.regionK tab_ok 0 (by decide) ?_
    refine runk_split 4 (by simp only [exa, beq_self_eq_true, ByteArray.size, Nat.reduceAdd, Nat.reduceLeDiff, Nat.reduceEqDiff, Nat.reduceMul, Int.reduceToNat, reduceIte, Int.reduceLE, Int.reduceNeg]; rfl) ?_
    refine runk_call rfl rfl rfl rfl rfl (by simp) (cvs_cons cv_refl (cvs_cons cv_refl cvs_nil)) (hy _) ?_
    refine runk_exec (by simp (disch := omega) only [exa, beq_self_eq_true, ByteArray.size, Nat.reduceAdd, Nat.reduceLeDiff, Nat.reduceEqDiff, Nat.reduceMul, Int.reduceToNat, reduceIte, Int.reduceLE, Int.reduceNeg, app_bytes, if_le, List.length_append, List.length_cons, List.length_nil]; rfl) ?_
    refine W.ret ⟨.inr rfl, by rfl, ?_⟩
    simp only [Tryd.f19, resA, resOne, toT, fin, exa, beq_self_eq_true, ByteArray.size, Nat.reduceAdd, Nat.reduceLeDiff, Nat.reduceEqDiff, Nat.reduceMul, Int.reduceToNat, reduceIte, Int.reduceLE, Int.reduceNeg]
    all_goals (try simp [List.append_assoc])
  · obtain ⟨⟨yk, yn, ym, ys⟩, rfl⟩ : ∃ y, kids = [y] := one_of hlo hhi
    have hT : textX ⟨7, n, strX nl, [⟨yk, yn, ym, ys⟩]⟩ = exprX ⟨yk, yn, ym, ys⟩ 4 ++ [46] ++ nl := by rw [textX_eq]; rfl
    have hy := hA ⟨yk, yn, ym, ys⟩ (by simp) 4
    rw [hT] at hfit ⊢
    simp only [List.length_append, List.length_cons, List.length_nil] at hfit
    obtain ⟨Y, hY⟩ : ∃ Y, exprX ⟨yk, yn, ym, ys⟩ 4 = Y := ⟨_, rfl⟩
    rw [hY] at hy hfit ⊢
    clear hY hT hA
    simp only [cExpr, cExprs] at hy ⊢
    refine (ok_pure tab_ok Tryd.func19 (by kernel_rfl) rfl rfl (by rfl) (by rfl) (by rfl) (fun R hkeep => ?_) m)
    repeat (first | refine W.seq ?_ | refine W.block ?_ | refine W.skip ?_ | refine W.exit ?_ | refine W.region tab_ok 0 (by decide) (exec_run (by simp only [exa, beq_self_eq_true, ByteArray.size, Nat.reduceAdd, Nat.reduceLeDiff, Nat.reduceEqDiff, Nat.reduceMul, Int.reduceToNat, reduceIte, Int.reduceLE, Int.reduceNeg]; rfl)) ?_)
    iterate 6 (refine W.cond rfl (fun h => absurd h (by decide)) (fun _ => ?_); repeat (first | refine W.seq ?_ | refine W.block ?_ | refine W.skip ?_ | refine W.exit ?_ | refine W.region tab_ok 0 (by decide) (exec_run (by simp only [exa, beq_self_eq_true, ByteArray.size, Nat.reduceAdd, Nat.reduceLeDiff, Nat.reduceEqDiff, Nat.reduceMul, Int.reduceToNat, reduceIte, Int.reduceLE, Int.reduceNeg]; rfl)) ?_))
    refine W.cond rfl (fun _ => ?_) (fun h => absurd h (by decide))
    (repeat (first | refine W.seq ?_ | refine W.block ?_ | refine W.skip ?_ | refine W.exit ?_))
    refine W.regionDK tab_ok 0 follows_mixed (by kernel_rfl) (by decide) ?_
    refine runk_split 4 (by simp only [exa, beq_self_eq_true, ByteArray.size, Nat.reduceAdd, Nat.reduceLeDiff, Nat.reduceEqDiff, Nat.reduceMul, Int.reduceToNat, reduceIte, Int.reduceLE, Int.reduceNeg]; rfl) ?_
    refine runk_call rfl rfl rfl rfl rfl (by simp) (cvs_cons cv_refl (cvs_cons cv_refl cvs_nil)) (hy _) ?_
    refine runk_exec (by simp (disch := omega) only [exa, beq_self_eq_true, ByteArray.size, Nat.reduceAdd, Nat.reduceLeDiff, Nat.reduceEqDiff, Nat.reduceMul, Int.reduceToNat, reduceIte, Int.reduceLE, Int.reduceNeg, app_bytes, if_le, List.length_append, List.length_cons, List.length_nil]; rfl) ?_
    refine W.ret ⟨.inr rfl, by rfl, ?_⟩
    simp only [Tryd.f19, resA, resOne, toT, fin, exa, beq_self_eq_true, ByteArray.size, Nat.reduceAdd, Nat.reduceLeDiff, Nat.reduceEqDiff, Nat.reduceMul, Int.reduceToNat, reduceIte, Int.reduceLE, Int.reduceNeg]
    all_goals (try simp [List.append_assoc])
  · obtain ⟨⟨yk, yn, ym, ys⟩, ⟨zk, zn, zm, zs⟩, rfl⟩ : ∃ y y2, kids = [y, y2] := two_of hlo hhi
    have hT : textX ⟨8, n, strX nl, [⟨yk, yn, ym, ys⟩, ⟨zk, zn, zm, zs⟩]⟩ = exprX ⟨yk, yn, ym, ys⟩ 4 ++ [91] ++ exprX ⟨zk, zn, zm, zs⟩ 1 ++ [93] := by rw [textX_eq]; rfl
    have hy := hA ⟨yk, yn, ym, ys⟩ (by simp) 4
    have hz := hA ⟨zk, zn, zm, zs⟩ (by simp) 1
    rw [hT] at hfit ⊢
    simp only [List.length_append, List.length_cons, List.length_nil] at hfit
    obtain ⟨Y, hY⟩ : ∃ Y, exprX ⟨yk, yn, ym, ys⟩ 4 = Y := ⟨_, rfl⟩
    obtain ⟨Z, hZ⟩ : ∃ Z, exprX ⟨zk, zn, zm, zs⟩ 1 = Z := ⟨_, rfl⟩
    rw [hY] at hy hfit ⊢
    rw [hZ] at hz hfit ⊢
    clear hY hZ hT hA
    simp only [cExpr, cExprs] at hy hz ⊢
    refine (ok_pure tab_ok Tryd.func19 (by kernel_rfl) rfl rfl (by rfl) (by rfl) (by rfl) (fun R hkeep => ?_) m)
    repeat (first | refine W.seq ?_ | refine W.block ?_ | refine W.skip ?_ | refine W.exit ?_ | refine W.region tab_ok 0 (by decide) (exec_run (by simp only [exa, beq_self_eq_true, ByteArray.size, Nat.reduceAdd, Nat.reduceLeDiff, Nat.reduceEqDiff, Nat.reduceMul, Int.reduceToNat, reduceIte, Int.reduceLE, Int.reduceNeg]; rfl)) ?_)
    iterate 7 (refine W.cond rfl (fun h => absurd h (by decide)) (fun _ => ?_); repeat (first | refine W.seq ?_ | refine W.block ?_ | refine W.skip ?_ | refine W.exit ?_ | refine W.region tab_ok 0 (by decide) (exec_run (by simp only [exa, beq_self_eq_true, ByteArray.size, Nat.reduceAdd, Nat.reduceLeDiff, Nat.reduceEqDiff, Nat.reduceMul, Int.reduceToNat, reduceIte, Int.reduceLE, Int.reduceNeg]; rfl)) ?_))
    refine W.cond rfl (fun _ => ?_) (fun h => absurd h (by decide))
    (repeat (first | refine W.seq ?_ | refine W.block ?_ | refine W.skip ?_ | refine W.exit ?_))
    refine W.regionDK tab_ok 0 follows_mixed (by kernel_rfl) (by decide) ?_
    refine runk_split 4 (by simp only [exa, beq_self_eq_true, ByteArray.size, Nat.reduceAdd, Nat.reduceLeDiff, Nat.reduceEqDiff, Nat.reduceMul, Int.reduceToNat, reduceIte, Int.reduceLE, Int.reduceNeg]; rfl) ?_
    refine runk_call rfl rfl rfl rfl rfl (by simp) (cvs_cons cv_refl (cvs_cons cv_refl cvs_nil)) (hy _) ?_
    refine runk_split 5 (by simp (disch := omega) only [exa, beq_self_eq_true, ByteArray.size, Nat.reduceAdd, Nat.reduceLeDiff, Nat.reduceEqDiff, Nat.reduceMul, Int.reduceToNat, reduceIte, Int.reduceLE, Int.reduceNeg, app_bytes, if_le, List.length_append, List.length_cons, List.length_nil]; rfl) ?_
    refine runk_call rfl rfl rfl rfl rfl (by simp) (cvs_cons cv_refl (cvs_cons cv_refl cvs_nil)) (hz _) ?_
    refine runk_exec (by simp (disch := omega) only [exa, beq_self_eq_true, ByteArray.size, Nat.reduceAdd, Nat.reduceLeDiff, Nat.reduceEqDiff, Nat.reduceMul, Int.reduceToNat, reduceIte, Int.reduceLE, Int.reduceNeg, app_bytes, if_le, List.length_append, List.length_cons, List.length_nil]; rfl) ?_
    refine W.ret ⟨.inr rfl, by rfl, ?_⟩
    simp only [Tryd.f19, resA, resOne, toT, fin, exa, beq_self_eq_true, ByteArray.size, Nat.reduceAdd, Nat.reduceLeDiff, Nat.reduceEqDiff, Nat.reduceMul, Int.reduceToNat, reduceIte, Int.reduceLE, Int.reduceNeg]
    all_goals (try simp [List.append_assoc])
  · obtain ⟨⟨yk, yn, ym, ys⟩, rfl⟩ : ∃ y, kids = [y] := one_of hlo hhi
    have hT : textX ⟨9, n, strX nl, [⟨yk, yn, ym, ys⟩]⟩ = exprX ⟨yk, yn, ym, ys⟩ 4 ++ [46, 108, 101, 110, 103, 116, 104] := by rw [textX_eq]; rfl
    have hy := hA ⟨yk, yn, ym, ys⟩ (by simp) 4
    rw [hT] at hfit ⊢
    simp only [List.length_append, List.length_cons, List.length_nil] at hfit
    obtain ⟨Y, hY⟩ : ∃ Y, exprX ⟨yk, yn, ym, ys⟩ 4 = Y := ⟨_, rfl⟩
    rw [hY] at hy hfit ⊢
    clear hY hT hA
    simp only [cExpr, cExprs] at hy ⊢
    refine (ok_pure tab_ok Tryd.func19 (by kernel_rfl) rfl rfl (by rfl) (by rfl) (by rfl) (fun R hkeep => ?_) m)
    repeat (first | refine W.seq ?_ | refine W.block ?_ | refine W.skip ?_ | refine W.exit ?_ | refine W.region tab_ok 0 (by decide) (exec_run (by simp only [exa, beq_self_eq_true, ByteArray.size, Nat.reduceAdd, Nat.reduceLeDiff, Nat.reduceEqDiff, Nat.reduceMul, Int.reduceToNat, reduceIte, Int.reduceLE, Int.reduceNeg]; rfl)) ?_)
    iterate 8 (refine W.cond rfl (fun h => absurd h (by decide)) (fun _ => ?_); repeat (first | refine W.seq ?_ | refine W.block ?_ | refine W.skip ?_ | refine W.exit ?_ | refine W.region tab_ok 0 (by decide) (exec_run (by simp only [exa, beq_self_eq_true, ByteArray.size, Nat.reduceAdd, Nat.reduceLeDiff, Nat.reduceEqDiff, Nat.reduceMul, Int.reduceToNat, reduceIte, Int.reduceLE, Int.reduceNeg]; rfl)) ?_))
    refine W.cond rfl (fun _ => ?_) (fun h => absurd h (by decide))
    (repeat (first | refine W.seq ?_ | refine W.block ?_ | refine W.skip ?_ | refine W.exit ?_))
    refine W.regionK tab_ok 0 (by decide) ?_
    refine runk_split 4 (by simp only [exa, beq_self_eq_true, ByteArray.size, Nat.reduceAdd, Nat.reduceLeDiff, Nat.reduceEqDiff, Nat.reduceMul, Int.reduceToNat, reduceIte, Int.reduceLE, Int.reduceNeg]; rfl) ?_
    refine runk_call rfl rfl rfl rfl rfl (by simp) (cvs_cons cv_refl (cvs_cons cv_refl cvs_nil)) (hy _) ?_
    refine runk_exec (by simp (disch := omega) only [exa, beq_self_eq_true, ByteArray.size, Nat.reduceAdd, Nat.reduceLeDiff, Nat.reduceEqDiff, Nat.reduceMul, Int.reduceToNat, reduceIte, Int.reduceLE, Int.reduceNeg, app_bytes, if_le, List.length_append, List.length_cons, List.length_nil]; rfl) ?_
    refine W.ret ⟨.inr rfl, by rfl, ?_⟩
    simp only [Tryd.f19, resA, resOne, toT, fin, exa, beq_self_eq_true, ByteArray.size, Nat.reduceAdd, Nat.reduceLeDiff, Nat.reduceEqDiff, Nat.reduceMul, Int.reduceToNat, reduceIte, Int.reduceLE, Int.reduceNeg]
    all_goals (try simp [List.append_assoc])
  · obtain ⟨⟨yk, yn, ym, ys⟩, r, rfl, hlen⟩ : ∃ y r, kids = y :: r ∧ r.length ≤ 100 := five_of hlo hhi
    have hT : textX ⟨10, n, strX nl, ⟨yk, yn, ym, ys⟩ :: r⟩ = exprX ⟨yk, yn, ym, ys⟩ 4 ++ [46] ++ nl ++ [40] ++ listE r ++ [41] := by rw [textX_eq, ← listX_eq]; rfl
    have hy := hA ⟨yk, yn, ym, ys⟩ (by simp) 4
    have hr : ∀ y ∈ r, ∀ (want : Int) (m : Mem), COk Tryd.prog 46 [.agg (cExpr y), .c (.int .i64 want)] m (.c (.str (strX (exprX y want)))) := fun y hy => hA y (List.mem_cons_of_mem _ hy)
    rw [hT] at hfit ⊢
    obtain ⟨Y, hY⟩ : ∃ Y, exprX ⟨yk, yn, ym, ys⟩ 4 = Y := ⟨_, rfl⟩
    rw [hY] at hy hfit ⊢
    have hsl := eq_true (Or.inr (rowsE (⟨yk, yn, ym, ys⟩ :: r)) : False ∨ ∀ x ∈ [C.int .i64 yk, C.int .i64 yn, C.str ym, C.sl (cExprs ys)] :: cExprs r, x.length = 4)
    clear hY hT hA
    obtain ⟨A0, hA0⟩ : ∃ A0, A0 = Y ++ [46] ++ nl ++ [40] := ⟨_, rfl⟩
    have hlA : A0.length = Y.length + 1 + nl.length + 1 := by rw [hA0]; simp; omega
    have hfit2 : A0.length + (listE r).length + 1 ≤ 100000000 := by
      simp only [List.length_append, List.length_cons, List.length_nil] at hfit
      omega
    simp only [List.length_append, List.length_cons, List.length_nil] at hfit
    simp only [cExpr, cExprs] at hy ⊢
    refine (ok_pure tab_ok Tryd.func19 (by kernel_rfl) rfl rfl (by rfl) (by rfl) (by rfl) (fun R hkeep => ?_) m)
    repeat (first | refine W.seq ?_ | refine W.block ?_ | refine W.skip ?_ | refine W.exit ?_ | refine W.region tab_ok 0 (by decide) (exec_run (by simp only [exa, beq_self_eq_true, ByteArray.size, Nat.reduceAdd, Nat.reduceLeDiff, Nat.reduceEqDiff, Nat.reduceMul, Int.reduceToNat, reduceIte, Int.reduceLE, Int.reduceNeg]; rfl)) ?_)
    iterate 9 (refine W.cond rfl (fun h => absurd h (by decide)) (fun _ => ?_); repeat (first | refine W.seq ?_ | refine W.block ?_ | refine W.skip ?_ | refine W.exit ?_ | refine W.region tab_ok 0 (by decide) (exec_run (by simp only [exa, beq_self_eq_true, ByteArray.size, Nat.reduceAdd, Nat.reduceLeDiff, Nat.reduceEqDiff, Nat.reduceMul, Int.reduceToNat, reduceIte, Int.reduceLE, Int.reduceNeg]; rfl)) ?_))
    refine W.cond rfl (fun _ => ?_) (fun h => absurd h (by decide))
    (repeat (first | refine W.seq ?_ | refine W.block ?_ | refine W.skip ?_ | refine W.exit ?_))
    refine W.regionDK tab_ok 0 follows_mixed (by kernel_rfl) (by decide) ?_
    refine runk_split 4 (by simp only [exa, beq_self_eq_true, ByteArray.size, Nat.reduceAdd, Nat.reduceLeDiff, Nat.reduceEqDiff, Nat.reduceMul, Int.reduceToNat, reduceIte, Int.reduceLE, Int.reduceNeg]; rfl) ?_
    refine runk_call rfl rfl rfl rfl rfl (by simp) (cvs_cons cv_refl (cvs_cons cv_refl cvs_nil)) (hy _) ?_
    refine runk_exec (by simp (disch := omega) only [exa, beq_self_eq_true, ByteArray.size, Nat.reduceAdd, Nat.reduceLeDiff, Nat.reduceEqDiff, Nat.reduceMul, Int.reduceToNat, reduceIte, Int.reduceLE, Int.reduceNeg, app_bytes, if_le, List.length_append, List.length_cons, List.length_nil]; rfl) ?_
    (repeat (first | refine W.seq ?_ | refine W.block ?_ | refine W.skip ?_ | refine W.exit ?_))
    refine W.regionK tab_ok 0 (by decide) ?_
    refine runk_exec (by simp only [exa, beq_self_eq_true, ByteArray.size, Nat.reduceAdd, Nat.reduceLeDiff, Nat.reduceEqDiff, Nat.reduceMul, Int.reduceToNat, reduceIte, Int.reduceLE, Int.reduceNeg, hsl, if_true, Nat.le_refl, List.take_length]; rfl) ?_
    rw [cExprs_map]
    (repeat (first | refine W.seq ?_ | refine W.block ?_ | refine W.skip ?_ | refine W.exit ?_))
    refine W.loop (ι := Nat) (fun k => ⟨upd (upd (upd (upd (upd (fun _ => .top) 1 (.ptr 1 0)) 3 (.c (.str (strX (A0 ++ commaX ((r.map (exprX · 1)).take k)))))) 84 (.c (.sl (r.map cExpr)))) 85 (.c (.int .i64 r.length))) 86 (.c (.int .i64 k)),
      upd Mem.nil 1 (some (.box 24 [.c (.int .i64 10), .c (.int .i64 n), .c (.str (strX nl)), .c (.sl ([C.int .i64 yk, C.int .i64 yn, C.str ym, C.sl (cExprs ys)] :: cExprs r))]))⟩) (fun k => k ≤ r.length) (fun k => r.length - k) 0 ?start (Nat.zero_le _) ?round
    case start =>
      rw [hA0]
      refine le_mk ?sle ?mle ?swf ?mwf ?kept (by rfl)
      case kept => exact kept_not hkeep
      case swf => repeat (first | exact swf_top _ | refine swf_upd ?_ (by simp [A.ids, upd_app]))
      case mwf => repeat (first | exact mwf_nil _ | refine mwf_upd ?_ (by simp [A.ids, O.ids, upd_app]))
      case mle => repeat (first | exact mle_nil _ | exact mle_refl _ | refine mle_upd ?_ (by first | rfl | (simp only [upd_app, killM_app, Nat.reduceEqDiff, reduceIte, commaX, List.take_zero, List.append_nil, List.append_assoc, List.cons_append, List.nil_append, cExprs_map, List.length_map]; done)))
      case sle => repeat (first | exact sle_top _ | exact sle_refl _ | refine sle_upd ?_ (by first | rfl | (simp only [upd_app, entry_zero, entry_succ, Nat.reduceEqDiff, reduceIte, commaX, List.take_zero, List.append_nil, List.append_assoc, List.cons_append, List.nil_append, cExprs_map, List.length_map]; done)))
    case round =>
      intro k hk
      repeat (first | refine W.seq ?_ | refine W.block ?_ | refine W.skip ?_ | refine W.exit ?_ | refine W.region tab_ok 0 (by decide) (exec_run (by simp only [exa, beq_self_eq_true, ByteArray.size, Nat.reduceAdd, Nat.reduceLeDiff, Nat.reduceEqDiff, Nat.reduceMul, Int.reduceToNat, reduceIte, Int.reduceLE, Int.reduceNeg]; rfl)) ?_)
      refine W.cond rfl ?_ ?_
      · intro hlt
        simp only [decide_eq_true_eq, Int.ofNat_lt] at hlt
        obtain ⟨x, hxk⟩ : ∃ x, r[k]? = some x := ⟨_, List.getElem?_eq_getElem hlt⟩
        have htk := commaX_take hxk
        have hle := commaX_le (r.map (exprX · 1)) (k + 1)
        have hlE : (listE r).length = (commaX (r.map (exprX · 1))).length := rfl
        have hln := congrArg List.length htk
        simp only [List.length_append] at hln
        have hx1 := hr x (List.mem_of_getElem? hxk) 1
        have hat := at_map (f := cExpr) hxk
        obtain ⟨E, hE⟩ : ∃ E, exprX x 1 = E := ⟨_, rfl⟩
        obtain ⟨Ck, hC⟩ : ∃ Ck, commaX ((r.map (exprX · 1)).take k) = Ck := ⟨_, rfl⟩
        rw [hE] at htk hln hx1
        rw [hC] at htk hln ⊢
        obtain ⟨xk, xn, xm, xs⟩ := x
        simp only [cExpr] at hat hx1
        repeat (first | refine W.seq ?_ | refine W.block ?_ | refine W.skip ?_ | refine W.exit ?_ | refine W.region tab_ok 0 (by decide) (exec_run (by simp only [exa, beq_self_eq_true, ByteArray.size, Nat.reduceAdd, Nat.reduceLeDiff, Nat.reduceEqDiff, Nat.reduceMul, Int.reduceToNat, reduceIte, Int.reduceLE, Int.reduceNeg, hat]; rfl)) ?_)
        refine W.cond rfl ?_ ?_
        · intro hk0
          simp only [decide_eq_true_eq] at hk0
          have hk0 : k ≠ 0 := by omega
          rw [if_neg hk0] at htk hln
          simp only [List.length_cons, List.length_nil] at hln
          (repeat (first | refine W.seq ?_ | refine W.block ?_ | refine W.skip ?_ | refine W.exit ?_))
          refine W.regionK tab_ok 0 (by decide) ?_
          refine runk_exec (by simp (disch := omega) only [exa, beq_self_eq_true, ByteArray.size, Nat.reduceAdd, Nat.reduceLeDiff, Nat.reduceEqDiff, Nat.reduceMul, Int.reduceToNat, reduceIte, Int.reduceLE, Int.reduceNeg, app_bytes, if_le, List.length_append, List.length_cons, List.length_nil]; rfl) ?_
          (repeat (first | refine W.seq ?_ | refine W.block ?_ | refine W.skip ?_ | refine W.exit ?_))
          refine W.regionK tab_ok 0 (by decide) ?_
          refine runk_split 2 (by simp (disch := omega) only [exa, beq_self_eq_true, ByteArray.size, Nat.reduceAdd, Nat.reduceLeDiff, Nat.reduceEqDiff, Nat.reduceMul, Int.reduceToNat, reduceIte, Int.reduceLE, Int.reduceNeg, app_bytes, if_le, List.length_append, List.length_cons, List.length_nil]; rfl) ?_
          refine runk_call rfl rfl rfl rfl rfl (by simp) (cvs_cons cv_refl (cvs_cons cv_refl cvs_nil)) (hx1 _) ?_
          refine runk_exec (by simp (disch := omega) only [exa, beq_self_eq_true, ByteArray.size, Nat.reduceAdd, Nat.reduceLeDiff, Nat.reduceEqDiff, Nat.reduceMul, Int.reduceToNat, reduceIte, Int.reduceLE, Int.reduceNeg, app_bytes, if_le, List.length_append, List.length_cons, List.length_nil]; rfl) ?_
          repeat (first | refine W.seq ?_ | refine W.block ?_ | refine W.skip ?_ | refine W.exit ?_ | refine W.region tab_ok 0 (by decide) (exec_run (by simp only [exa, beq_self_eq_true, ByteArray.size, Nat.reduceAdd, Nat.reduceLeDiff, Nat.reduceEqDiff, Nat.reduceMul, Int.reduceToNat, reduceIte, Int.reduceLE, Int.reduceNeg]; rfl)) ?_)
          refine ⟨k + 1, hlt, by omega, ?_⟩
          rw [htk]
          refine le_mk ?sle ?mle ?swf ?mwf ?kept (by rfl)
          case kept => exact kept_not hkeep
          case swf => repeat (first | exact swf_top _ | refine swf_upd ?_ (by simp [A.ids, upd_app]))
          case mwf => repeat (first | exact mwf_nil _ | refine mwf_upd ?_ (by simp [A.ids, O.ids, upd_app]))
          case mle => repeat (first | exact mle_nil _ | exact mle_refl _ | refine mle_upd ?_ (by first | rfl | (simp only [upd_app, killM_app, Nat.reduceEqDiff, reduceIte, List.append_assoc, List.cons_append, List.nil_append, wrap_succ (show k + 1 < 9223372036854775808 by omega)]; done)))
          case sle => repeat (first | exact sle_top _ | exact sle_refl _ | refine sle_upd ?_ (by first | rfl | (simp only [upd_app, entry_zero, entry_succ, Nat.reduceEqDiff, reduceIte, List.append_assoc, List.cons_append, List.nil_append, wrap_succ (show k + 1 < 9223372036854775808 by omega)]; done)))
        · intro hk0
          simp only [decide_eq_false_iff_not] at hk0
          have hk0 : k = 0 := by omega
          rw [if_pos hk0] at htk hln
          simp only [List.length_nil] at hln
          (repeat (first | refine W.seq ?_ | refine W.block ?_ | refine W.skip ?_ | refine W.exit ?_))
          refine W.regionK tab_ok 0 (by decide) ?_
          refine runk_split 2 (by simp (disch := omega) only [exa, beq_self_eq_true, ByteArray.size, Nat.reduceAdd, Nat.reduceLeDiff, Nat.reduceEqDiff, Nat.reduceMul, Int.reduceToNat, reduceIte, Int.reduceLE, Int.reduceNeg, app_bytes, if_le, List.length_append, List.length_cons, List.length_nil]; rfl) ?_
          refine runk_call rfl rfl rfl rfl rfl (by simp) (cvs_cons cv_refl (cvs_cons cv_refl cvs_nil)) (hx1 _) ?_
          refine runk_exec (by simp (disch := omega) only [exa, beq_self_eq_true, ByteArray.size, Nat.reduceAdd, Nat.reduceLeDiff, Nat.reduceEqDiff, Nat.reduceMul, Int.reduceToNat, reduceIte, Int.reduceLE, Int.reduceNeg, app_bytes, if_le, List.length_append, List.length_cons, List.length_nil]; rfl) ?_
          repeat (first | refine W.seq ?_ | refine W.block ?_ | refine W.skip ?_ | refine W.exit ?_ | refine W.region tab_ok 0 (by decide) (exec_run (by simp only [exa, beq_self_eq_true, ByteArray.size, Nat.reduceAdd, Nat.reduceLeDiff, Nat.reduceEqDiff, Nat.reduceMul, Int.reduceToNat, reduceIte, Int.reduceLE, Int.reduceNeg]; rfl)) ?_)
          refine ⟨k + 1, hlt, by omega, ?_⟩
          rw [htk]
          refine le_mk ?sle ?mle ?swf ?mwf ?kept (by rfl)
          case kept => exact kept_not hkeep
          case swf => repeat (first | exact swf_top _ | refine swf_upd ?_ (by simp [A.ids, upd_app]))
          case mwf => repeat (first | exact mwf_nil _ | refine mwf_upd ?_ (by simp [A.ids, O.ids, upd_app]))
          case mle => repeat (first | exact mle_nil _ | exact mle_refl _ | refine mle_upd ?_ (by first | rfl | (simp only [upd_app, killM_app, Nat.reduceEqDiff, reduceIte, List.append_assoc, List.cons_append, List.nil_append, wrap_succ (show k + 1 < 9223372036854775808 by omega)]; done)))
          case sle => repeat (first | exact sle_top _ | exact sle_refl _ | refine sle_upd ?_ (by first | rfl | (simp only [upd_app, entry_zero, entry_succ, Nat.reduceEqDiff, reduceIte, List.append_assoc, List.cons_append, List.nil_append, wrap_succ (show k + 1 < 9223372036854775808 by omega)]; done)))
      · intro hge
        simp only [decide_eq_false_iff_not, Int.ofNat_lt] at hge
        obtain rfl : k = r.length := by omega
        rw [List.take_of_length_le (by simp)]
        have hlE : (listE r).length = (commaX (r.map (exprX · 1))).length := rfl
        have hle2 : listE r = commaX (r.map (exprX · 1)) := rfl
        obtain ⟨Ck, hC⟩ : ∃ Ck, commaX (r.map (exprX · 1)) = Ck := ⟨_, rfl⟩
        rw [hC] at hlE hle2 ⊢
        rw [hle2]
        (repeat (first | refine W.seq ?_ | refine W.block ?_ | refine W.skip ?_ | refine W.exit ?_))
        refine W.regionK tab_ok 0 (by decide) ?_
        refine runk_exec (by simp (disch := omega) only [exa, beq_self_eq_true, ByteArray.size, Nat.reduceAdd, Nat.reduceLeDiff, Nat.reduceEqDiff, Nat.reduceMul, Int.reduceToNat, reduceIte, Int.reduceLE, Int.reduceNeg, app_bytes, if_le, List.length_append, List.length_cons, List.length_nil]; rfl) ?_
        refine W.ret ⟨.inr rfl, by rfl, ?_⟩
        simp only [Tryd.f19, resA, resOne, toT, fin, exa, beq_self_eq_true, ByteArray.size, Nat.reduceAdd, Nat.reduceLeDiff, Nat.reduceEqDiff, Nat.reduceMul, Int.reduceToNat, reduceIte, Int.reduceLE, Int.reduceNeg]
        all_goals (rw [hA0]; try simp [List.append_assoc])
  · have hT : textX ⟨11, n, strX nl, kids⟩ = [114, 101, 97, 100, 40] ++ Lib.itoa n ++ [41] := by simp [textX, bodyX]
    rw [hT] at hfit ⊢
    simp only [List.length_append, List.length_cons, List.length_nil] at hfit
    refine (ok_pure tab_ok Tryd.func19 (by kernel_rfl) rfl rfl (by rfl) (by rfl) (by rfl) (fun R hkeep => ?_) m)
    repeat (first | refine W.seq ?_ | refine W.block ?_ | refine W.skip ?_ | refine W.exit ?_ | refine W.region tab_ok 0 (by decide) (exec_run (by simp only [exa, beq_self_eq_true, ByteArray.size, Nat.reduceAdd, Nat.reduceLeDiff, Nat.reduceEqDiff, Nat.reduceMul, Int.reduceToNat, reduceIte, Int.reduceLE, Int.reduceNeg]; rfl)) ?_)
    iterate 10 (refine W.cond rfl (fun h => absurd h (by decide)) (fun _ => ?_); repeat (first | refine W.seq ?_ | refine W.block ?_ | refine W.skip ?_ | refine W.exit ?_ | refine W.region tab_ok 0 (by decide) (exec_run (by simp only [exa, beq_self_eq_true, ByteArray.size, Nat.reduceAdd, Nat.reduceLeDiff, Nat.reduceEqDiff, Nat.reduceMul, Int.reduceToNat, reduceIte, Int.reduceLE, Int.reduceNeg]; rfl)) ?_))
    refine W.cond rfl (fun _ => ?_) (fun h => absurd h (by decide))
    (repeat (first | refine W.seq ?_ | refine W.block ?_ | refine W.skip ?_ | refine W.exit ?_))
    refine W.regionK tab_ok 0 (by decide) ?_
    refine runk_split 2 (by simp only [exa, beq_self_eq_true, ByteArray.size, Nat.reduceAdd, Nat.reduceLeDiff, Nat.reduceEqDiff, Nat.reduceMul, Int.reduceToNat, reduceIte, Int.reduceLE, Int.reduceNeg]; rfl) ?_
    refine runk_call rfl rfl rfl rfl rfl (by simp) (cvs_cons cv_refl cvs_nil) (num01_ok n hn0 (Int.le_trans hn1 (by decide)) _) ?_
    refine runk_exec (by simp (disch := omega) only [exa, beq_self_eq_true, ByteArray.size, Nat.reduceAdd, Nat.reduceLeDiff, Nat.reduceEqDiff, Nat.reduceMul, Int.reduceToNat, reduceIte, Int.reduceLE, Int.reduceNeg, app_bytes, if_le, List.length_append, List.length_cons, List.length_nil]; rfl) ?_
    refine W.ret ⟨.inr rfl, by rfl, ?_⟩
    simp only [Tryd.f19, resA, resOne, toT, fin, exa, beq_self_eq_true, ByteArray.size, Nat.reduceAdd, Nat.reduceLeDiff, Nat.reduceEqDiff, Nat.reduceMul, Int.reduceToNat, reduceIte, Int.reduceLE, Int.reduceNeg]
    all_goals (try simp [List.append_assoc])
  · obtain ⟨⟨yk, yn, ym, ys⟩, rfl⟩ : ∃ y, kids = [y] := one_of hlo hhi
    have hT : textX ⟨12, n, strX nl, [⟨yk, yn, ym, ys⟩]⟩ = [100, 101, 99, 108, 97, 115, 115, 105, 102, 121, 40] ++ exprX ⟨yk, yn, ym, ys⟩ 1 ++ [41] := by rw [textX_eq]; rfl
    have hy := hA ⟨yk, yn, ym, ys⟩ (by simp) 1
    rw [hT] at hfit ⊢
    simp only [List.length_append, List.length_cons, List.length_nil] at hfit
    obtain ⟨Y, hY⟩ : ∃ Y, exprX ⟨yk, yn, ym, ys⟩ 1 = Y := ⟨_, rfl⟩
    rw [hY] at hy hfit ⊢
    clear hY hT hA
    simp only [cExpr, cExprs] at hy ⊢
    refine (ok_pure tab_ok Tryd.func19 (by kernel_rfl) rfl rfl (by rfl) (by rfl) (by rfl) (fun R hkeep => ?_) m)
    repeat (first | refine W.seq ?_ | refine W.block ?_ | refine W.skip ?_ | refine W.exit ?_ | refine W.region tab_ok 0 (by decide) (exec_run (by simp only [exa, beq_self_eq_true, ByteArray.size, Nat.reduceAdd, Nat.reduceLeDiff, Nat.reduceEqDiff, Nat.reduceMul, Int.reduceToNat, reduceIte, Int.reduceLE, Int.reduceNeg]; rfl)) ?_)
    iterate 11 (refine W.cond rfl (fun h => absurd h (by decide)) (fun _ => ?_); repeat (first | refine W.seq ?_ | refine W.block ?_ | refine W.skip ?_ | refine W.exit ?_ | refine W.region tab_ok 0 (by decide) (exec_run (by simp only [exa, beq_self_eq_true, ByteArray.size, Nat.reduceAdd, Nat.reduceLeDiff, Nat.reduceEqDiff, Nat.reduceMul, Int.reduceToNat, reduceIte, Int.reduceLE, Int.reduceNeg]; rfl)) ?_))
    refine W.cond rfl (fun _ => ?_) (fun h => absurd h (by decide))
    (repeat (first | refine W.seq ?_ | refine W.block ?_ | refine W.skip ?_ | refine W.exit ?_))
    refine W.regionK tab_ok 0 (by decide) ?_
    refine runk_split 4 (by simp only [exa, beq_self_eq_true, ByteArray.size, Nat.reduceAdd, Nat.reduceLeDiff, Nat.reduceEqDiff, Nat.reduceMul, Int.reduceToNat, reduceIte, Int.reduceLE, Int.reduceNeg]; rfl) ?_
    refine runk_call rfl rfl rfl rfl rfl (by simp) (cvs_cons cv_refl (cvs_cons cv_refl cvs_nil)) (hy _) ?_
    refine runk_exec (by simp (disch := omega) only [exa, beq_self_eq_true, ByteArray.size, Nat.reduceAdd, Nat.reduceLeDiff, Nat.reduceEqDiff, Nat.reduceMul, Int.reduceToNat, reduceIte, Int.reduceLE, Int.reduceNeg, app_bytes, if_le, List.length_append, List.length_cons, List.length_nil]; rfl) ?_
    refine W.ret ⟨.inr rfl, by rfl, ?_⟩
    simp only [Tryd.f19, resA, resOne, toT, fin, exa, beq_self_eq_true, ByteArray.size, Nat.reduceAdd, Nat.reduceLeDiff, Nat.reduceEqDiff, Nat.reduceMul, Int.reduceToNat, reduceIte, Int.reduceLE, Int.reduceNeg]
    all_goals (try simp [List.append_assoc])
  · obtain ⟨⟨yk, yn, ym, ys⟩, ⟨zk, zn, zm, zs⟩, rfl⟩ : ∃ y y2, kids = [y, y2] := two_of hlo hhi
    have hT : textX ⟨13, n, strX nl, [⟨yk, yn, ym, ys⟩, ⟨zk, zn, zm, zs⟩]⟩ = exprX ⟨yk, yn, ym, ys⟩ 2 ++ [32] ++ [43] ++ [32] ++ exprX ⟨zk, zn, zm, zs⟩ 3 := by
      rw [textX_eq, ← kidX_at (l := [⟨yk, yn, ym, ys⟩, ⟨zk, zn, zm, zs⟩]) (i := 0) rfl, ← kidX_at (l := [⟨yk, yn, ym, ys⟩, ⟨zk, zn, zm, zs⟩]) (i := 1) rfl]
      simp [bodyX, shapeOf, shapes, levX]
      all_goals rfl
    have hy := hA ⟨yk, yn, ym, ys⟩ (by simp) 2
    have hz := hA ⟨zk, zn, zm, zs⟩ (by simp) 3
    have hg := sign_ok 13 (by decide)
    have hgx : signX 13 = [43] := rfl
    rw [hgx] at hg
    rw [hT] at hfit ⊢
    simp only [List.length_append, List.length_cons, List.length_nil] at hfit
    obtain ⟨Y, hY⟩ : ∃ Y, exprX ⟨yk, yn, ym, ys⟩ 2 = Y := ⟨_, rfl⟩
    obtain ⟨Z, hZ⟩ : ∃ Z, exprX ⟨zk, zn, zm, zs⟩ 3 = Z := ⟨_, rfl⟩
    rw [hY] at hy hfit ⊢
    rw [hZ] at hz hfit ⊢
    clear hY hZ hT hA
    simp only [cExpr, cExprs] at hy hz ⊢
    refine (ok_pure tab_ok Tryd.func19 (by kernel_rfl) rfl rfl (by rfl) (by rfl) (by rfl) (fun R hkeep => ?_) m)
    repeat (first | refine W.seq ?_ | refine W.block ?_ | refine W.skip ?_ | refine W.exit ?_ | refine W.region tab_ok 0 (by decide) (exec_run (by simp only [exa, beq_self_eq_true, ByteArray.size, Nat.reduceAdd, Nat.reduceLeDiff, Nat.reduceEqDiff, Nat.reduceMul, Int.reduceToNat, reduceIte, Int.reduceLE, Int.reduceNeg]; rfl)) ?_ | refine W.cond rfl (fun _ => ?_) (fun h => absurd h (by decide)) | refine W.cond rfl (fun h => absurd h (by decide)) (fun _ => ?_))
    refine W.regionDK tab_ok 0 follows_mixed (by kernel_rfl) (by decide) ?_
    refine runk_split 4 (by simp only [exa, beq_self_eq_true, ByteArray.size, Nat.reduceAdd, Nat.reduceLeDiff, Nat.reduceEqDiff, Nat.reduceMul, Int.reduceToNat, reduceIte, Int.reduceLE, Int.reduceNeg]; rfl) ?_
    refine runk_call rfl rfl rfl rfl rfl (by simp) (cvs_cons cv_refl (cvs_cons cv_refl cvs_nil)) (hy _) ?_
    refine runk_split 3 (by simp (disch := omega) only [exa, beq_self_eq_true, ByteArray.size, Nat.reduceAdd, Nat.reduceLeDiff, Nat.reduceEqDiff, Nat.reduceMul, Int.reduceToNat, reduceIte, Int.reduceLE, Int.reduceNeg, app_bytes, if_le, List.length_append, List.length_cons, List.length_nil]; rfl) ?_
    refine runk_call rfl rfl rfl rfl rfl (by simp) (cvs_cons cv_refl cvs_nil) (hg _) ?_
    refine runk_split 6 (by simp (disch := omega) only [exa, beq_self_eq_true, ByteArray.size, Nat.reduceAdd, Nat.reduceLeDiff, Nat.reduceEqDiff, Nat.reduceMul, Int.reduceToNat, reduceIte, Int.reduceLE, Int.reduceNeg, app_bytes, if_le, List.length_append, List.length_cons, List.length_nil]; rfl) ?_
    refine runk_call rfl rfl rfl rfl rfl (by simp) (cvs_cons cv_refl (cvs_cons cv_refl cvs_nil)) (hz _) ?_
    refine runk_exec (by simp (disch := omega) only [exa, beq_self_eq_true, ByteArray.size, Nat.reduceAdd, Nat.reduceLeDiff, Nat.reduceEqDiff, Nat.reduceMul, Int.reduceToNat, reduceIte, Int.reduceLE, Int.reduceNeg, app_bytes, if_le, List.length_append, List.length_cons, List.length_nil]; rfl) ?_
    refine W.ret ⟨.inr rfl, by rfl, ?_⟩
    simp only [Tryd.f19, resA, resOne, toT, fin, exa, beq_self_eq_true, ByteArray.size, Nat.reduceAdd, Nat.reduceLeDiff, Nat.reduceEqDiff, Nat.reduceMul, Int.reduceToNat, reduceIte, Int.reduceLE, Int.reduceNeg]
    all_goals (try simp [List.append_assoc])
  · obtain ⟨⟨yk, yn, ym, ys⟩, ⟨zk, zn, zm, zs⟩, rfl⟩ : ∃ y y2, kids = [y, y2] := two_of hlo hhi
    have hT : textX ⟨14, n, strX nl, [⟨yk, yn, ym, ys⟩, ⟨zk, zn, zm, zs⟩]⟩ = exprX ⟨yk, yn, ym, ys⟩ 2 ++ [32] ++ [45] ++ [32] ++ exprX ⟨zk, zn, zm, zs⟩ 3 := by
      rw [textX_eq, ← kidX_at (l := [⟨yk, yn, ym, ys⟩, ⟨zk, zn, zm, zs⟩]) (i := 0) rfl, ← kidX_at (l := [⟨yk, yn, ym, ys⟩, ⟨zk, zn, zm, zs⟩]) (i := 1) rfl]
      simp [bodyX, shapeOf, shapes, levX]
      all_goals rfl
    have hy := hA ⟨yk, yn, ym, ys⟩ (by simp) 2
    have hz := hA ⟨zk, zn, zm, zs⟩ (by simp) 3
    have hg := sign_ok 14 (by decide)
    have hgx : signX 14 = [45] := rfl
    rw [hgx] at hg
    rw [hT] at hfit ⊢
    simp only [List.length_append, List.length_cons, List.length_nil] at hfit
    obtain ⟨Y, hY⟩ : ∃ Y, exprX ⟨yk, yn, ym, ys⟩ 2 = Y := ⟨_, rfl⟩
    obtain ⟨Z, hZ⟩ : ∃ Z, exprX ⟨zk, zn, zm, zs⟩ 3 = Z := ⟨_, rfl⟩
    rw [hY] at hy hfit ⊢
    rw [hZ] at hz hfit ⊢
    clear hY hZ hT hA
    simp only [cExpr, cExprs] at hy hz ⊢
    refine (ok_pure tab_ok Tryd.func19 (by kernel_rfl) rfl rfl (by rfl) (by rfl) (by rfl) (fun R hkeep => ?_) m)
    repeat (first | refine W.seq ?_ | refine W.block ?_ | refine W.skip ?_ | refine W.exit ?_ | refine W.region tab_ok 0 (by decide) (exec_run (by simp only [exa, beq_self_eq_true, ByteArray.size, Nat.reduceAdd, Nat.reduceLeDiff, Nat.reduceEqDiff, Nat.reduceMul, Int.reduceToNat, reduceIte, Int.reduceLE, Int.reduceNeg]; rfl)) ?_ | refine W.cond rfl (fun _ => ?_) (fun h => absurd h (by decide)) | refine W.cond rfl (fun h => absurd h (by decide)) (fun _ => ?_))
    refine W.regionDK tab_ok 0 follows_mixed (by kernel_rfl) (by decide) ?_
    refine runk_split 4 (by simp only [exa, beq_self_eq_true, ByteArray.size, Nat.reduceAdd, Nat.reduceLeDiff, Nat.reduceEqDiff, Nat.reduceMul, Int.reduceToNat, reduceIte, Int.reduceLE, Int.reduceNeg]; rfl) ?_
    refine runk_call rfl rfl rfl rfl rfl (by simp) (cvs_cons cv_refl (cvs_cons cv_refl cvs_nil)) (hy _) ?_
    refine runk_split 3 (by simp (disch := omega) only [exa, beq_self_eq_true, ByteArray.size, Nat.reduceAdd, Nat.reduceLeDiff, Nat.reduceEqDiff, Nat.reduceMul, Int.reduceToNat, reduceIte, Int.reduceLE, Int.reduceNeg, app_bytes, if_le, List.length_append, List.length_cons, List.length_nil]; rfl) ?_
    refine runk_call rfl rfl rfl rfl rfl (by simp) (cvs_cons cv_refl cvs_nil) (hg _) ?_
    refine runk_split 6 (by simp (disch := omega) only [exa, beq_self_eq_true, ByteArray.size, Nat.reduceAdd, Nat.reduceLeDiff, Nat.reduceEqDiff, Nat.reduceMul, Int.reduceToNat, reduceIte, Int.reduceLE, Int.reduceNeg, app_bytes, if_le, List.length_append, List.length_cons, List.length_nil]; rfl) ?_
    refine runk_call rfl rfl rfl rfl rfl (by simp) (cvs_cons cv_refl (cvs_cons cv_refl cvs_nil)) (hz _) ?_
    refine runk_exec (by simp (disch := omega) only [exa, beq_self_eq_true, ByteArray.size, Nat.reduceAdd, Nat.reduceLeDiff, Nat.reduceEqDiff, Nat.reduceMul, Int.reduceToNat, reduceIte, Int.reduceLE, Int.reduceNeg, app_bytes, if_le, List.length_append, List.length_cons, List.length_nil]; rfl) ?_
    refine W.ret ⟨.inr rfl, by rfl, ?_⟩
    simp only [Tryd.f19, resA, resOne, toT, fin, exa, beq_self_eq_true, ByteArray.size, Nat.reduceAdd, Nat.reduceLeDiff, Nat.reduceEqDiff, Nat.reduceMul, Int.reduceToNat, reduceIte, Int.reduceLE, Int.reduceNeg]
    all_goals (try simp [List.append_assoc])
  · obtain ⟨⟨yk, yn, ym, ys⟩, ⟨zk, zn, zm, zs⟩, rfl⟩ : ∃ y y2, kids = [y, y2] := two_of hlo hhi
    have hT : textX ⟨15, n, strX nl, [⟨yk, yn, ym, ys⟩, ⟨zk, zn, zm, zs⟩]⟩ = exprX ⟨yk, yn, ym, ys⟩ 3 ++ [32] ++ [42] ++ [32] ++ exprX ⟨zk, zn, zm, zs⟩ 4 := by
      rw [textX_eq, ← kidX_at (l := [⟨yk, yn, ym, ys⟩, ⟨zk, zn, zm, zs⟩]) (i := 0) rfl, ← kidX_at (l := [⟨yk, yn, ym, ys⟩, ⟨zk, zn, zm, zs⟩]) (i := 1) rfl]
      simp [bodyX, shapeOf, shapes, levX]
      all_goals rfl
    have hy := hA ⟨yk, yn, ym, ys⟩ (by simp) 3
    have hz := hA ⟨zk, zn, zm, zs⟩ (by simp) 4
    have hg := sign_ok 15 (by decide)
    have hgx : signX 15 = [42] := rfl
    rw [hgx] at hg
    rw [hT] at hfit ⊢
    simp only [List.length_append, List.length_cons, List.length_nil] at hfit
    obtain ⟨Y, hY⟩ : ∃ Y, exprX ⟨yk, yn, ym, ys⟩ 3 = Y := ⟨_, rfl⟩
    obtain ⟨Z, hZ⟩ : ∃ Z, exprX ⟨zk, zn, zm, zs⟩ 4 = Z := ⟨_, rfl⟩
    rw [hY] at hy hfit ⊢
    rw [hZ] at hz hfit ⊢
    clear hY hZ hT hA
    simp only [cExpr, cExprs] at hy hz ⊢
    refine (ok_pure tab_ok Tryd.func19 (by kernel_rfl) rfl rfl (by rfl) (by rfl) (by rfl) (fun R hkeep => ?_) m)
    repeat (first | refine W.seq ?_ | refine W.block ?_ | refine W.skip ?_ | refine W.exit ?_ | refine W.region tab_ok 0 (by decide) (exec_run (by simp only [exa, beq_self_eq_true, ByteArray.size, Nat.reduceAdd, Nat.reduceLeDiff, Nat.reduceEqDiff, Nat.reduceMul, Int.reduceToNat, reduceIte, Int.reduceLE, Int.reduceNeg]; rfl)) ?_ | refine W.cond rfl (fun _ => ?_) (fun h => absurd h (by decide)) | refine W.cond rfl (fun h => absurd h (by decide)) (fun _ => ?_))
    refine W.regionDK tab_ok 0 follows_mixed (by kernel_rfl) (by decide) ?_
    refine runk_split 4 (by simp only [exa, beq_self_eq_true, ByteArray.size, Nat.reduceAdd, Nat.reduceLeDiff, Nat.reduceEqDiff, Nat.reduceMul, Int.reduceToNat, reduceIte, Int.reduceLE, Int.reduceNeg]; rfl) ?_
    refine runk_call rfl rfl rfl rfl rfl (by simp) (cvs_cons cv_refl (cvs_cons cv_refl cvs_nil)) (hy _) ?_
    refine runk_split 3 (by simp (disch := omega) only [exa, beq_self_eq_true, ByteArray.size, Nat.reduceAdd, Nat.reduceLeDiff, Nat.reduceEqDiff, Nat.reduceMul, Int.reduceToNat, reduceIte, Int.reduceLE, Int.reduceNeg, app_bytes, if_le, List.length_append, List.length_cons, List.length_nil]; rfl) ?_
    refine runk_call rfl rfl rfl rfl rfl (by simp) (cvs_cons cv_refl cvs_nil) (hg _) ?_
    refine runk_split 6 (by simp (disch := omega) only [exa, beq_self_eq_true, ByteArray.size, Nat.reduceAdd, Nat.reduceLeDiff, Nat.reduceEqDiff, Nat.reduceMul, Int.reduceToNat, reduceIte, Int.reduceLE, Int.reduceNeg, app_bytes, if_le, List.length_append, List.length_cons, List.length_nil]; rfl) ?_
    refine runk_call rfl rfl rfl rfl rfl (by simp) (cvs_cons cv_refl (cvs_cons cv_refl cvs_nil)) (hz _) ?_
    refine runk_exec (by simp (disch := omega) only [exa, beq_self_eq_true, ByteArray.size, Nat.reduceAdd, Nat.reduceLeDiff, Nat.reduceEqDiff, Nat.reduceMul, Int.reduceToNat, reduceIte, Int.reduceLE, Int.reduceNeg, app_bytes, if_le, List.length_append, List.length_cons, List.length_nil]; rfl) ?_
    refine W.ret ⟨.inr rfl, by rfl, ?_⟩
    simp only [Tryd.f19, resA, resOne, toT, fin, exa, beq_self_eq_true, ByteArray.size, Nat.reduceAdd, Nat.reduceLeDiff, Nat.reduceEqDiff, Nat.reduceMul, Int.reduceToNat, reduceIte, Int.reduceLE, Int.reduceNeg]
    all_goals (try simp [List.append_assoc])
  · obtain ⟨⟨yk, yn, ym, ys⟩, ⟨zk, zn, zm, zs⟩, rfl⟩ : ∃ y y2, kids = [y, y2] := two_of hlo hhi
    have hT : textX ⟨16, n, strX nl, [⟨yk, yn, ym, ys⟩, ⟨zk, zn, zm, zs⟩]⟩ = exprX ⟨yk, yn, ym, ys⟩ 3 ++ [32] ++ [47] ++ [32] ++ exprX ⟨zk, zn, zm, zs⟩ 4 := by
      rw [textX_eq, ← kidX_at (l := [⟨yk, yn, ym, ys⟩, ⟨zk, zn, zm, zs⟩]) (i := 0) rfl, ← kidX_at (l := [⟨yk, yn, ym, ys⟩, ⟨zk, zn, zm, zs⟩]) (i := 1) rfl]
      simp [bodyX, shapeOf, shapes, levX]
      all_goals rfl
    have hy := hA ⟨yk, yn, ym, ys⟩ (by simp) 3
    have hz := hA ⟨zk, zn, zm, zs⟩ (by simp) 4
    have hg := sign_ok 16 (by decide)
    have hgx : signX 16 = [47] := rfl
    rw [hgx] at hg
    rw [hT] at hfit ⊢
    simp only [List.length_append, List.length_cons, List.length_nil] at hfit
    obtain ⟨Y, hY⟩ : ∃ Y, exprX ⟨yk, yn, ym, ys⟩ 3 = Y := ⟨_, rfl⟩
    obtain ⟨Z, hZ⟩ : ∃ Z, exprX ⟨zk, zn, zm, zs⟩ 4 = Z := ⟨_, rfl⟩
    rw [hY] at hy hfit ⊢
    rw [hZ] at hz hfit ⊢
    clear hY hZ hT hA
    simp only [cExpr, cExprs] at hy hz ⊢
    refine (ok_pure tab_ok Tryd.func19 (by kernel_rfl) rfl rfl (by rfl) (by rfl) (by rfl) (fun R hkeep => ?_) m)
    repeat (first | refine W.seq ?_ | refine W.block ?_ | refine W.skip ?_ | refine W.exit ?_ | refine W.region tab_ok 0 (by decide) (exec_run (by simp only [exa, beq_self_eq_true, ByteArray.size, Nat.reduceAdd, Nat.reduceLeDiff, Nat.reduceEqDiff, Nat.reduceMul, Int.reduceToNat, reduceIte, Int.reduceLE, Int.reduceNeg]; rfl)) ?_ | refine W.cond rfl (fun _ => ?_) (fun h => absurd h (by decide)) | refine W.cond rfl (fun h => absurd h (by decide)) (fun _ => ?_))
    refine W.regionDK tab_ok 0 follows_mixed (by kernel_rfl) (by decide) ?_
    refine runk_split 4 (by simp only [exa, beq_self_eq_true, ByteArray.size, Nat.reduceAdd, Nat.reduceLeDiff, Nat.reduceEqDiff, Nat.reduceMul, Int.reduceToNat, reduceIte, Int.reduceLE, Int.reduceNeg]; rfl) ?_
    refine runk_call rfl rfl rfl rfl rfl (by simp) (cvs_cons cv_refl (cvs_cons cv_refl cvs_nil)) (hy _) ?_
    refine runk_split 3 (by simp (disch := omega) only [exa, beq_self_eq_true, ByteArray.size, Nat.reduceAdd, Nat.reduceLeDiff, Nat.reduceEqDiff, Nat.reduceMul, Int.reduceToNat, reduceIte, Int.reduceLE, Int.reduceNeg, app_bytes, if_le, List.length_append, List.length_cons, List.length_nil]; rfl) ?_
    refine runk_call rfl rfl rfl rfl rfl (by simp) (cvs_cons cv_refl cvs_nil) (hg _) ?_
    refine runk_split 6 (by simp (disch := omega) only [exa, beq_self_eq_true, ByteArray.size, Nat.reduceAdd, Nat.reduceLeDiff, Nat.reduceEqDiff, Nat.reduceMul, Int.reduceToNat, reduceIte, Int.reduceLE, Int.reduceNeg, app_bytes, if_le, List.length_append, List.length_cons, List.length_nil]; rfl) ?_
    refine runk_call rfl rfl rfl rfl rfl (by simp) (cvs_cons cv_refl (cvs_cons cv_refl cvs_nil)) (hz _) ?_
    refine runk_exec (by simp (disch := omega) only [exa, beq_self_eq_true, ByteArray.size, Nat.reduceAdd, Nat.reduceLeDiff, Nat.reduceEqDiff, Nat.reduceMul, Int.reduceToNat, reduceIte, Int.reduceLE, Int.reduceNeg, app_bytes, if_le, List.length_append, List.length_cons, List.length_nil]; rfl) ?_
    refine W.ret ⟨.inr rfl, by rfl, ?_⟩
    simp only [Tryd.f19, resA, resOne, toT, fin, exa, beq_self_eq_true, ByteArray.size, Nat.reduceAdd, Nat.reduceLeDiff, Nat.reduceEqDiff, Nat.reduceMul, Int.reduceToNat, reduceIte, Int.reduceLE, Int.reduceNeg]
    all_goals (try simp [List.append_assoc])
  · obtain ⟨⟨yk, yn, ym, ys⟩, ⟨zk, zn, zm, zs⟩, rfl⟩ : ∃ y y2, kids = [y, y2] := two_of hlo hhi
    have hT : textX ⟨17, n, strX nl, [⟨yk, yn, ym, ys⟩, ⟨zk, zn, zm, zs⟩]⟩ = exprX ⟨yk, yn, ym, ys⟩ 2 ++ [32] ++ [60] ++ [32] ++ exprX ⟨zk, zn, zm, zs⟩ 2 := by
      rw [textX_eq, ← kidX_at (l := [⟨yk, yn, ym, ys⟩, ⟨zk, zn, zm, zs⟩]) (i := 0) rfl, ← kidX_at (l := [⟨yk, yn, ym, ys⟩, ⟨zk, zn, zm, zs⟩]) (i := 1) rfl]
      simp [bodyX, shapeOf, shapes, levX]
      all_goals rfl
    have hy := hA ⟨yk, yn, ym, ys⟩ (by simp) 2
    have hz := hA ⟨zk, zn, zm, zs⟩ (by simp) 2
    have hg := sign_ok 17 (by decide)
    have hgx : signX 17 = [60] := rfl
    rw [hgx] at hg
    rw [hT] at hfit ⊢
    simp only [List.length_append, List.length_cons, List.length_nil] at hfit
    obtain ⟨Y, hY⟩ : ∃ Y, exprX ⟨yk, yn, ym, ys⟩ 2 = Y := ⟨_, rfl⟩
    obtain ⟨Z, hZ⟩ : ∃ Z, exprX ⟨zk, zn, zm, zs⟩ 2 = Z := ⟨_, rfl⟩
    rw [hY] at hy hfit ⊢
    rw [hZ] at hz hfit ⊢
    clear hY hZ hT hA
    simp only [cExpr, cExprs] at hy hz ⊢
    refine (ok_pure tab_ok Tryd.func19 (by kernel_rfl) rfl rfl (by rfl) (by rfl) (by rfl) (fun R hkeep => ?_) m)
    repeat (first | refine W.seq ?_ | refine W.block ?_ | refine W.skip ?_ | refine W.exit ?_ | refine W.region tab_ok 0 (by decide) (exec_run (by simp only [exa, beq_self_eq_true, ByteArray.size, Nat.reduceAdd, Nat.reduceLeDiff, Nat.reduceEqDiff, Nat.reduceMul, Int.reduceToNat, reduceIte, Int.reduceLE, Int.reduceNeg]; rfl)) ?_ | refine W.cond rfl (fun _ => ?_) (fun h => absurd h (by decide)) | refine W.cond rfl (fun h => absurd h (by decide)) (fun _ => ?_))
    refine W.regionDK tab_ok 0 follows_mixed (by kernel_rfl) (by decide) ?_
    refine runk_split 4 (by simp only [exa, beq_self_eq_true, ByteArray.size, Nat.reduceAdd, Nat.reduceLeDiff, Nat.reduceEqDiff, Nat.reduceMul, Int.reduceToNat, reduceIte, Int.reduceLE, Int.reduceNeg]; rfl) ?_
    refine runk_call rfl rfl rfl rfl rfl (by simp) (cvs_cons cv_refl (cvs_cons cv_refl cvs_nil)) (hy _) ?_
    refine runk_split 3 (by simp (disch := omega) only [exa, beq_self_eq_true, ByteArray.size, Nat.reduceAdd, Nat.reduceLeDiff, Nat.reduceEqDiff, Nat.reduceMul, Int.reduceToNat, reduceIte, Int.reduceLE, Int.reduceNeg, app_bytes, if_le, List.length_append, List.length_cons, List.length_nil]; rfl) ?_
    refine runk_call rfl rfl rfl rfl rfl (by simp) (cvs_cons cv_refl cvs_nil) (hg _) ?_
    refine runk_split 6 (by simp (disch := omega) only [exa, beq_self_eq_true, ByteArray.size, Nat.reduceAdd, Nat.reduceLeDiff, Nat.reduceEqDiff, Nat.reduceMul, Int.reduceToNat, reduceIte, Int.reduceLE, Int.reduceNeg, app_bytes, if_le, List.length_append, List.length_cons, List.length_nil]; rfl) ?_
    refine runk_call rfl rfl rfl rfl rfl (by simp) (cvs_cons cv_refl (cvs_cons cv_refl cvs_nil)) (hz _) ?_
    refine runk_exec (by simp (disch := omega) only [exa, beq_self_eq_true, ByteArray.size, Nat.reduceAdd, Nat.reduceLeDiff, Nat.reduceEqDiff, Nat.reduceMul, Int.reduceToNat, reduceIte, Int.reduceLE, Int.reduceNeg, app_bytes, if_le, List.length_append, List.length_cons, List.length_nil]; rfl) ?_
    refine W.ret ⟨.inr rfl, by rfl, ?_⟩
    simp only [Tryd.f19, resA, resOne, toT, fin, exa, beq_self_eq_true, ByteArray.size, Nat.reduceAdd, Nat.reduceLeDiff, Nat.reduceEqDiff, Nat.reduceMul, Int.reduceToNat, reduceIte, Int.reduceLE, Int.reduceNeg]
    all_goals (try simp [List.append_assoc])
  · obtain ⟨⟨yk, yn, ym, ys⟩, ⟨zk, zn, zm, zs⟩, rfl⟩ : ∃ y y2, kids = [y, y2] := two_of hlo hhi
    have hT : textX ⟨18, n, strX nl, [⟨yk, yn, ym, ys⟩, ⟨zk, zn, zm, zs⟩]⟩ = exprX ⟨yk, yn, ym, ys⟩ 2 ++ [32] ++ [61, 61] ++ [32] ++ exprX ⟨zk, zn, zm, zs⟩ 2 := by
      rw [textX_eq, ← kidX_at (l := [⟨yk, yn, ym, ys⟩, ⟨zk, zn, zm, zs⟩]) (i := 0) rfl, ← kidX_at (l := [⟨yk, yn, ym, ys⟩, ⟨zk, zn, zm, zs⟩]) (i := 1) rfl]
      simp [bodyX, shapeOf, shapes, levX]
      all_goals rfl
    have hy := hA ⟨yk, yn, ym, ys⟩ (by simp) 2
    have hz := hA ⟨zk, zn, zm, zs⟩ (by simp) 2
    have hg := sign_ok 18 (by decide)
    have hgx : signX 18 = [61, 61] := rfl
    rw [hgx] at hg
    rw [hT] at hfit ⊢
    simp only [List.length_append, List.length_cons, List.length_nil] at hfit
    obtain ⟨Y, hY⟩ : ∃ Y, exprX ⟨yk, yn, ym, ys⟩ 2 = Y := ⟨_, rfl⟩
    obtain ⟨Z, hZ⟩ : ∃ Z, exprX ⟨zk, zn, zm, zs⟩ 2 = Z := ⟨_, rfl⟩
    rw [hY] at hy hfit ⊢
    rw [hZ] at hz hfit ⊢
    clear hY hZ hT hA
    simp only [cExpr, cExprs] at hy hz ⊢
    refine (ok_pure tab_ok Tryd.func19 (by kernel_rfl) rfl rfl (by rfl) (by rfl) (by rfl) (fun R hkeep => ?_) m)
    repeat (first | refine W.seq ?_ | refine W.block ?_ | refine W.skip ?_ | refine W.exit ?_ | refine W.region tab_ok 0 (by decide) (exec_run (by simp only [exa, beq_self_eq_true, ByteArray.size, Nat.reduceAdd, Nat.reduceLeDiff, Nat.reduceEqDiff, Nat.reduceMul, Int.reduceToNat, reduceIte, Int.reduceLE, Int.reduceNeg]; rfl)) ?_ | refine W.cond rfl (fun _ => ?_) (fun h => absurd h (by decide)) | refine W.cond rfl (fun h => absurd h (by decide)) (fun _ => ?_))
    refine W.regionDK tab_ok 0 follows_mixed (by kernel_rfl) (by decide) ?_
    refine runk_split 4 (by simp only [exa, beq_self_eq_true, ByteArray.size, Nat.reduceAdd, Nat.reduceLeDiff, Nat.reduceEqDiff, Nat.reduceMul, Int.reduceToNat, reduceIte, Int.reduceLE, Int.reduceNeg]; rfl) ?_
    refine runk_call rfl rfl rfl rfl rfl (by simp) (cvs_cons cv_refl (cvs_cons cv_refl cvs_nil)) (hy _) ?_
    refine runk_split 3 (by simp (disch := omega) only [exa, beq_self_eq_true, ByteArray.size, Nat.reduceAdd, Nat.reduceLeDiff, Nat.reduceEqDiff, Nat.reduceMul, Int.reduceToNat, reduceIte, Int.reduceLE, Int.reduceNeg, app_bytes, if_le, List.length_append, List.length_cons, List.length_nil]; rfl) ?_
    refine runk_call rfl rfl rfl rfl rfl (by simp) (cvs_cons cv_refl cvs_nil) (hg _) ?_
    refine runk_split 6 (by simp (disch := omega) only [exa, beq_self_eq_true, ByteArray.size, Nat.reduceAdd, Nat.reduceLeDiff, Nat.reduceEqDiff, Nat.reduceMul, Int.reduceToNat, reduceIte, Int.reduceLE, Int.reduceNeg, app_bytes, if_le, List.length_append, List.length_cons, List.length_nil]; rfl) ?_
    refine runk_call rfl rfl rfl rfl rfl (by simp) (cvs_cons cv_refl (cvs_cons cv_refl cvs_nil)) (hz _) ?_
    refine runk_exec (by simp (disch := omega) only [exa, beq_self_eq_true, ByteArray.size, Nat.reduceAdd, Nat.reduceLeDiff, Nat.reduceEqDiff, Nat.reduceMul, Int.reduceToNat, reduceIte, Int.reduceLE, Int.reduceNeg, app_bytes, if_le, List.length_append, List.length_cons, List.length_nil]; rfl) ?_
    refine W.ret ⟨.inr rfl, by rfl, ?_⟩
    simp only [Tryd.f19, resA, resOne, toT, fin, exa, beq_self_eq_true, ByteArray.size, Nat.reduceAdd, Nat.reduceLeDiff, Nat.reduceEqDiff, Nat.reduceMul, Int.reduceToNat, reduceIte, Int.reduceLE, Int.reduceNeg]
    all_goals (try simp [List.append_assoc])
end V
end Go.Proofs.YtbmbmcdaabhgnaaDoor
end
section
set_option linter.unusedVariables false
set_option linter.unusedSimpArgs false
namespace Go.Proofs.YtbmbmcdaabhgnaaDoor
namespace V
open Go.RowKit
theorem lev_pos {x : Expr} (hx : exprB x = true) : ¬ levX x.kind < 1 := by
  have hk : 1 ≤ x.kind ∧ x.kind ≤ 18 := by
    rw [exprB_eq] at hx
    obtain ⟨htop, -⟩ := Bool.and_eq_true_iff.1 hx
    rw [exprTop_eq] at htop
    simp only [Bool.and_eq_true, decide_eq_true_eq] at htop
    obtain ⟨⟨⟨⟨⟨hkk, -⟩, -⟩, -⟩, -⟩, -⟩ := htop
    by_cases hk : 1 ≤ x.kind ∧ x.kind ≤ 18
    · exact hk
    · unfold shapeOf at hkk; rw [if_neg hk] at hkk; cases hkk
  generalize x.kind = k at hk
  have hcase : k = 1 ∨ k = 2 ∨ k = 3 ∨ k = 4 ∨ k = 5 ∨ k = 6 ∨ k = 7 ∨ k = 8 ∨ k = 9 ∨ k = 10 ∨ k = 11 ∨ k = 12 ∨ k = 13 ∨ k = 14 ∨ k = 15 ∨ k = 16 ∨ k = 17 ∨ k = 18 := by omega
  rcases hcase with rfl | rfl | rfl | rfl | rfl | rfl | rfl | rfl | rfl | rfl | rfl | rfl | rfl | rfl | rfl | rfl | rfl | rfl <;> decide
theorem exprX_one {x : Expr} (hx : exprB x = true) : exprX x 1 = textX x := by
  show (if levX x.kind < 1 then 40 :: (textX x ++ [41]) else textX x) = _
  rw [if_neg (lev_pos hx)]
def vX (s : ByteArray) : Expr := ⟨4, 0, s, []⟩
def nX (i : Int) : Expr := ⟨1, i, ⟨#[]⟩, []⟩
def opX (k : Int) (a b : Expr) : Expr := ⟨k, 0, ⟨#[]⟩, [a, b]⟩
theorem v_ok (s : ByteArray) (m : Mem) : COk Tryd.prog 21 [.c (.str s)] m (.agg (cExpr (vX s))) := by
  refine (ok_pure tab_ok Tryd.func21 (by kernel_rfl) rfl rfl (by rfl) (by rfl) (by rfl) (fun R hkeep => ?_) m)
  repeat (first | refine W.seq ?_ | refine W.block ?_ | refine W.skip ?_ | refine W.exit ?_ | refine W.region tab_ok 0 (by decide) (exec_run (by simp only [exa, beq_self_eq_true, ByteArray.size, Nat.reduceAdd, Nat.reduceLeDiff, Nat.reduceEqDiff, Nat.reduceMul, Int.reduceToNat, reduceIte, Int.reduceLE, Int.reduceNeg]; rfl)) ?_)
  refine W.ret ⟨.inr rfl, by rfl, ?_⟩
  simp only [Tryd.f21, resA, resOne, toT, fin, exa, beq_self_eq_true, ByteArray.size, Nat.reduceAdd, Nat.reduceLeDiff, Nat.reduceEqDiff, Nat.reduceMul, Int.reduceToNat, reduceIte, Int.reduceLE, Int.reduceNeg]
  simp [vX, cExpr, cExprs]
theorem n_ok (i : Int) (m : Mem) : COk Tryd.prog 22 [.c (.int .i64 i)] m (.agg (cExpr (nX i))) := by
  refine (ok_pure tab_ok Tryd.func22 (by kernel_rfl) rfl rfl (by rfl) (by rfl) (by rfl) (fun R hkeep => ?_) m)
  repeat (first | refine W.seq ?_ | refine W.block ?_ | refine W.skip ?_ | refine W.exit ?_ | refine W.region tab_ok 0 (by decide) (exec_run (by simp only [exa, beq_self_eq_true, ByteArray.size, Nat.reduceAdd, Nat.reduceLeDiff, Nat.reduceEqDiff, Nat.reduceMul, Int.reduceToNat, reduceIte, Int.reduceLE, Int.reduceNeg]; rfl)) ?_)
  refine W.ret ⟨.inr rfl, by rfl, ?_⟩
  simp only [Tryd.f22, resA, resOne, toT, fin, exa, beq_self_eq_true, ByteArray.size, Nat.reduceAdd, Nat.reduceLeDiff, Nat.reduceEqDiff, Nat.reduceMul, Int.reduceToNat, reduceIte, Int.reduceLE, Int.reduceNeg]
  simp [nX, cExpr, cExprs]
theorem op_ok (k : Int) (a b : Expr) (m : Mem) : COk Tryd.prog 20 [.c (.int .i64 k), .agg (cExpr a), .agg (cExpr b)] m (.agg (cExpr (opX k a b))) := by
  obtain ⟨ak, an, am, as1⟩ := a
  obtain ⟨bk, bn, bm, bs1⟩ := b
  simp only [cExpr, opX, cExprs]
  refine (ok_pure tab_ok Tryd.func20 (by kernel_rfl) rfl rfl (by rfl) (by rfl) (by rfl) (fun R hkeep => ?_) m)
  repeat (first | refine W.seq ?_ | refine W.block ?_ | refine W.skip ?_ | refine W.exit ?_ | refine W.region tab_ok 0 (by decide) (exec_run (by simp only [exa, beq_self_eq_true, ByteArray.size, Nat.reduceAdd, Nat.reduceLeDiff, Nat.reduceEqDiff, Nat.reduceMul, Int.reduceToNat, reduceIte, Int.reduceLE, Int.reduceNeg]; rfl)) ?_)
  refine W.ret ⟨.inr rfl, by rfl, ?_⟩
  simp only [Tryd.f20, resA, resOne, toT, fin, exa, beq_self_eq_true, ByteArray.size, Nat.reduceAdd, Nat.reduceLeDiff, Nat.reduceEqDiff, Nat.reduceMul, Int.reduceToNat, reduceIte, Int.reduceLE, Int.reduceNeg]
  all_goals (try simp)
def sX : ByteArray := ⟨#[120]⟩
def sY : ByteArray := ⟨#[121]⟩
def liveX : Expr := opX 17 (opX 13 (vX sX) (nX 1)) (opX 15 (nX 2) (opX 14 (vX sY) (nX 3)))
theorem live_text : showX liveX = (⟨#[120, 32, 43, 32, 49, 32, 60, 32, 50, 32, 42, 32, 40, 121, 32, 45, 32, 51, 41]⟩, 0) := by decide +kernel
theorem live_len : (exprX liveX 1).length ≤ 140737488351232 := by decide +kernel
theorem live3_ok (m : Mem) : COk Tryd.prog 9 [] m (.c (.bool true)) := by
  have h1 := showX_ok liveX (fun _ => live_len)
  rw [live_text] at h1
  refine (ok_pure tab_ok Tryd.func9 (by kernel_rfl) rfl rfl (by rfl) (by rfl) (by rfl) (fun R hkeep => ?_) m)
  repeat (first | refine W.seq ?_ | refine W.block ?_ | refine W.skip ?_ | refine W.exit ?_ | refine W.region tab_ok 0 (by decide) (exec_run (by simp only [exa, beq_self_eq_true, ByteArray.size, Nat.reduceAdd, Nat.reduceLeDiff, Nat.reduceEqDiff, Nat.reduceMul, Int.reduceToNat, reduceIte, Int.reduceLE, Int.reduceNeg]; rfl)) ?_)
  (repeat (first | refine W.seq ?_ | refine W.block ?_ | refine W.skip ?_))
  refine W.regionK tab_ok 0 (by decide) ?_
  refine runk_split 0 (by simp only [exa, beq_self_eq_true, ByteArray.size, Nat.reduceAdd, Nat.reduceLeDiff, Nat.reduceEqDiff, Nat.reduceMul, Int.reduceToNat, reduceIte, Int.reduceLE, Int.reduceNeg]; rfl) ?_
  refine runk_call rfl rfl rfl rfl rfl (by simp) (cvs_cons cv_refl cvs_nil) (v_ok sX _) ?_
  refine runk_split 0 (by simp only [exa, beq_self_eq_true, ByteArray.size, Nat.reduceAdd, Nat.reduceLeDiff, Nat.reduceEqDiff, Nat.reduceMul, Int.reduceToNat, reduceIte, Int.reduceLE, Int.reduceNeg]; rfl) ?_
  refine runk_call rfl rfl rfl rfl rfl (by simp) (cvs_cons cv_refl cvs_nil) (n_ok 1 _) ?_
  refine runk_split 0 (by simp only [exa, beq_self_eq_true, ByteArray.size, Nat.reduceAdd, Nat.reduceLeDiff, Nat.reduceEqDiff, Nat.reduceMul, Int.reduceToNat, reduceIte, Int.reduceLE, Int.reduceNeg]; rfl) ?_
  refine runk_call rfl rfl rfl rfl rfl (by simp) (cvs_cons cv_refl (cvs_cons cv_refl (cvs_cons cv_refl cvs_nil))) (op_ok 13 (vX sX) (nX 1) _) ?_
  refine runk_split 0 (by simp only [exa, beq_self_eq_true, ByteArray.size, Nat.reduceAdd, Nat.reduceLeDiff, Nat.reduceEqDiff, Nat.reduceMul, Int.reduceToNat, reduceIte, Int.reduceLE, Int.reduceNeg]; rfl) ?_
  refine runk_call rfl rfl rfl rfl rfl (by simp) (cvs_cons cv_refl cvs_nil) (n_ok 2 _) ?_
  refine runk_split 0 (by simp only [exa, beq_self_eq_true, ByteArray.size, Nat.reduceAdd, Nat.reduceLeDiff, Nat.reduceEqDiff, Nat.reduceMul, Int.reduceToNat, reduceIte, Int.reduceLE, Int.reduceNeg]; rfl) ?_
  refine runk_call rfl rfl rfl rfl rfl (by simp) (cvs_cons cv_refl cvs_nil) (v_ok sY _) ?_
  refine runk_split 0 (by simp only [exa, beq_self_eq_true, ByteArray.size, Nat.reduceAdd, Nat.reduceLeDiff, Nat.reduceEqDiff, Nat.reduceMul, Int.reduceToNat, reduceIte, Int.reduceLE, Int.reduceNeg]; rfl) ?_
  refine runk_call rfl rfl rfl rfl rfl (by simp) (cvs_cons cv_refl cvs_nil) (n_ok 3 _) ?_
  refine runk_split 0 (by simp only [exa, beq_self_eq_true, ByteArray.size, Nat.reduceAdd, Nat.reduceLeDiff, Nat.reduceEqDiff, Nat.reduceMul, Int.reduceToNat, reduceIte, Int.reduceLE, Int.reduceNeg]; rfl) ?_
  refine runk_call rfl rfl rfl rfl rfl (by simp) (cvs_cons cv_refl (cvs_cons cv_refl (cvs_cons cv_refl cvs_nil))) (op_ok 14 (vX sY) (nX 3) _) ?_
  refine runk_split 0 (by simp only [exa, beq_self_eq_true, ByteArray.size, Nat.reduceAdd, Nat.reduceLeDiff, Nat.reduceEqDiff, Nat.reduceMul, Int.reduceToNat, reduceIte, Int.reduceLE, Int.reduceNeg]; rfl) ?_
  refine runk_call rfl rfl rfl rfl rfl (by simp) (cvs_cons cv_refl (cvs_cons cv_refl (cvs_cons cv_refl cvs_nil))) (op_ok 15 (nX 2) (opX 14 (vX sY) (nX 3)) _) ?_
  refine runk_split 0 (by simp only [exa, beq_self_eq_true, ByteArray.size, Nat.reduceAdd, Nat.reduceLeDiff, Nat.reduceEqDiff, Nat.reduceMul, Int.reduceToNat, reduceIte, Int.reduceLE, Int.reduceNeg]; rfl) ?_
  refine runk_call rfl rfl rfl rfl rfl (by simp) (cvs_cons cv_refl (cvs_cons cv_refl (cvs_cons cv_refl cvs_nil))) (op_ok 17 (opX 13 (vX sX) (nX 1)) (opX 15 (nX 2) (opX 14 (vX sY) (nX 3))) _) ?_
  refine runk_split 0 (by simp only [exa, beq_self_eq_true, ByteArray.size, Nat.reduceAdd, Nat.reduceLeDiff, Nat.reduceEqDiff, Nat.reduceMul, Int.reduceToNat, reduceIte, Int.reduceLE, Int.reduceNeg]; rfl) ?_
  refine runk_call rfl rfl rfl rfl rfl (by simp) (cvs_cons cv_refl cvs_nil) (h1 _) ?_
  refine runk_exec (by simp only [exa, beq_self_eq_true, ByteArray.size, Nat.reduceAdd, Nat.reduceLeDiff, Nat.reduceEqDiff, Nat.reduceMul, Int.reduceToNat, reduceIte, Int.reduceLE, Int.reduceNeg]; rfl) ?_
  repeat (first | refine W.seq ?_ | refine W.block ?_ | refine W.skip ?_ | refine W.exit ?_ | refine W.region tab_ok 0 (by decide) (exec_run (by simp only [exa, beq_self_eq_true, ByteArray.size, Nat.reduceAdd, Nat.reduceLeDiff, Nat.reduceEqDiff, Nat.reduceMul, Int.reduceToNat, reduceIte, Int.reduceLE, Int.reduceNeg]; rfl)) ?_)
  refine W.ret ⟨.inr rfl, by rfl, ?_⟩
  simp only [Tryd.f9, resA, resOne, toT, fin, exa, beq_self_eq_true, ByteArray.size, Nat.reduceAdd, Nat.reduceLeDiff, Nat.reduceEqDiff, Nat.reduceMul, Int.reduceToNat, reduceIte, Int.reduceLE, Int.reduceNeg]
end V
end Go.Proofs.YtbmbmcdaabhgnaaDoor
end
section
set_option linter.unusedVariables false
set_option linter.unusedSimpArgs false
namespace Go.Proofs.YtbmbmcdaabhgnaaDoor
namespace V
open Go.RowKit
theorem oneE {es : List Expr} (h : es.length = 1) : ∃ y, es = [y] := by
  match es, h with
  | [y], _ => exact ⟨y, rfl⟩
theorem twoE {es : List Expr} (h : es.length = 2) : ∃ y z, es = [y, z] := by
  match es, h with
  | [y, z], _ => exact ⟨y, z, rfl⟩
theorem listE_one {x : Expr} (hx : exprB x = true) : listE [x] = textX x := by
  rw [← exprX_one hx]; rfl
theorem tabX_succ (t : Nat) : tabX t ++ [9] = tabX (t + 1) := by simp [tabX, List.replicate_succ']
set_option maxHeartbeats 8000000 in
theorem rstmts_ok : ∀ (z : Nat) (l : List Stmt) (t : Nat), SizeOf.sizeOf l ≤ z → stmtsB l = true → cntSs l ≤ 1048576 → (stmtsX l t).length + t ≤ 20000000000000 → ∀ m, COk Tryd.prog 29 [.c (.sl (cStmts l)), .c (.str (strX (tabX t)))] m (.c (.str (strX (stmtsX l t)))) := by
  intro z
  induction z using Nat.strongRecOn with
  | ind z ih =>
  intro l t hz hb hc hlen m
  have hlt0 := tabX_len t
  have hB : ∀ s ∈ l, stmtB s = true := by rw [stmtsB_all, List.all_eq_true] at hb; exact hb
  obtain ⟨T, hT⟩ : ∃ T, tabX t = T := ⟨_, rfl⟩
  rw [hT] at hlt0 ⊢
  rw [cStmts_map]
  have hll : l.length ≤ 1048576 := Nat.le_trans (cntSs_len l) hc
  refine (ok_pure tab_ok Tryd.func29 (by kernel_rfl) rfl rfl (by rfl) (by rfl) (by rfl) (fun R hkeep => ?_) m)
  repeat (first | refine W.seq ?_ | refine W.block ?_ | refine W.skip ?_ | refine W.exit ?_ | refine W.region tab_ok 0 (by decide) (exec_run (by simp only [exa, beq_self_eq_true, ByteArray.size, Nat.reduceAdd, Nat.reduceLeDiff, Nat.reduceEqDiff, Nat.reduceMul, Int.reduceToNat, reduceIte, Int.reduceLE, Int.reduceNeg]; rfl)) ?_)
  refine W.loop (ι := Nat) (fun k => ⟨upd (upd (upd (upd (upd (fun _ => .top) 1 (.c (.str (strX T)))) 5 (.c (.str (strX (stmtsX (l.take k) t))))) 8 (.c (.sl (l.map cStmt)))) 9 (.c (.int .i64 l.length))) 10 (.c (.int .i64 k)), Mem.nil⟩) (fun k => k ≤ l.length) (fun k => l.length - k) 0 ?start (Nat.zero_le _) ?round
  case start =>
    refine le_mk ?sle ?mle ?swf ?mwf ?kept (by rfl)
    case kept => exact kept_not hkeep
    case swf => repeat (first | exact swf_top _ | refine swf_upd ?_ (by simp [A.ids, upd_app]))
    case mwf => repeat (first | exact mwf_nil _ | refine mwf_upd ?_ (by simp [A.ids, O.ids, upd_app]))
    case mle => repeat (first | exact mle_nil _ | exact mle_refl _ | refine mle_upd ?_ (by first | rfl | (simp only [upd_app, killM_app, Nat.reduceEqDiff, reduceIte, stmtsX, List.take_zero, List.length_map]; done)))
    case sle => repeat (first | exact sle_top _ | exact sle_refl _ | refine sle_upd ?_ (by first | rfl | (simp only [upd_app, entry_zero, entry_succ, Nat.reduceEqDiff, reduceIte, stmtsX, List.take_zero, List.length_map]; done)))
  case round =>
    intro k hk
    repeat (first | refine W.seq ?_ | refine W.block ?_ | refine W.skip ?_ | refine W.exit ?_ | refine W.region tab_ok 0 (by decide) (exec_run (by simp only [exa, beq_self_eq_true, ByteArray.size, Nat.reduceAdd, Nat.reduceLeDiff, Nat.reduceEqDiff, Nat.reduceMul, Int.reduceToNat, reduceIte, Int.reduceLE, Int.reduceNeg]; rfl)) ?_)
    refine W.cond rfl ?_ ?_
    · intro hlt
      simp only [decide_eq_true_eq, Int.ofNat_lt] at hlt
      obtain ⟨s, hxk⟩ : ∃ s, l[k]? = some s := ⟨_, List.getElem?_eq_getElem hlt⟩
      have hsm := List.mem_of_getElem? hxk
      have htk := stmtsX_take hxk t
      have hle := stmtsX_le l (k + 1) t
      have hln := congrArg List.length htk
      simp only [List.length_append] at hln
      have hat := at_map (f := cStmt) hxk
      have hcs := cntS_mem hsm
      have hbs := hB s hsm
      have hzs : SizeOf.sizeOf s < SizeOf.sizeOf l := List.sizeOf_lt_of_mem hsm
      obtain ⟨sk, sn, sty, snm, es, th, el⟩ := s
      obtain ⟨tyl, rfl⟩ : ∃ nl, sty = strX nl := ⟨_, strX_of sty⟩
      obtain ⟨nml, rfl⟩ : ∃ nl, snm = strX nl := ⟨_, strX_of snm⟩
      obtain ⟨hk17, fe, f1, f2, f3, f4, fx, ft, fl⟩ := stmt_facts hbs
      simp only [cntS] at hcs
      have hA : ∀ y ∈ es, ∀ (m : Mem), COk Tryd.prog 19 [.agg (cExpr y)] m (.c (.str (strX (textX y)))) := fun y hy => text_ok _ y (Nat.le_refl _) (fx y hy) (by have := cntE_mem hy; omega)
      have hsz := Stmt.mk.sizeOf_spec sk sn (strX tyl) (strX nml) es th el
      have hTh : (stmtsX th (t + 1)).length + (t + 1) ≤ 20000000000000 → ∀ m, COk Tryd.prog 29 [.c (.sl (cStmts th)), .c (.str (strX (T ++ [9])))] m (.c (.str (strX (stmtsX th (t + 1))))) := fun hq m => by
        rw [← hT, tabX_succ]
        exact ih (SizeOf.sizeOf th) (by omega) th (t + 1) (Nat.le_refl _) (by rw [stmtsB_all, List.all_eq_true]; exact ft) (by omega) hq m
      have hEl : (stmtsX el (t + 1)).length + (t + 1) ≤ 20000000000000 → ∀ m, COk Tryd.prog 29 [.c (.sl (cStmts el)), .c (.str (strX (T ++ [9])))] m (.c (.str (strX (stmtsX el (t + 1))))) := fun hq m => by
        rw [← hT, tabX_succ]
        exact ih (SizeOf.sizeOf el) (by omega) el (t + 1) (Nat.le_refl _) (by rw [stmtsB_all, List.all_eq_true]; exact fl) (by omega) hq m
      have hSX : stmtX ⟨sk, sn, strX tyl, strX nml, es, th, el⟩ t = T ++ bodyS sk sn tyl nml es t (stmtsX th (t + 1)) (stmtsX el (t + 1)) el.isEmpty := by rw [← hT]; simp [stmtX, strX]
      obtain ⟨O, hO⟩ : ∃ O, stmtsX (l.take k) t = O := ⟨_, rfl⟩
      obtain ⟨TA, hAA⟩ : ∃ TA, stmtsX th (t + 1) = TA := ⟨_, rfl⟩
      obtain ⟨TB, hBB⟩ : ∃ TB, stmtsX el (t + 1) = TB := ⟨_, rfl⟩
      rw [hO] at htk hln ⊢
      rw [hAA] at hTh hSX
      rw [hBB] at hEl hSX
      rw [hSX] at htk hln
      clear hSX hAA hBB hbs hzs hsz ih hB
      simp only [cStmt] at hat
      have hcase : sk = 1 ∨ sk = 2 ∨ sk = 3 ∨ sk = 4 ∨ sk = 5 ∨ sk = 6 ∨ sk = 7 := by omega
      rcases hcase with rfl | rfl | rfl | rfl | rfl | rfl | rfl
      · cases es with
        | nil =>
          have hbd : bodyS 1 sn tyl nml [] t TA TB el.isEmpty = tyl ++ [32] ++ nml ++ [59, 10] := by simp [bodyS]
          rw [hbd] at htk hln
          simp only [List.length_append, List.length_cons, List.length_nil] at hln
          simp only [cExprs] at hat
          repeat (first | refine W.seq ?_ | refine W.block ?_ | refine W.skip ?_ | refine W.exit ?_ | refine W.region tab_ok 0 (by decide) (exec_run (by simp (disch := omega) only [exa, beq_self_eq_true, ByteArray.size, Nat.reduceAdd, Nat.reduceLeDiff, Nat.reduceEqDiff, Nat.reduceMul, Int.reduceToNat, reduceIte, Int.reduceLE, Int.reduceNeg, app_bytes, if_le, List.length_append, List.length_cons, List.length_nil, hat]; rfl)) ?_)
          refine W.cond rfl (fun _ => ?_) (fun h => absurd h (by decide))
          (repeat (first | refine W.seq ?_ | refine W.block ?_ | refine W.skip ?_ | refine W.exit ?_))
          repeat (first | refine W.seq ?_ | refine W.block ?_ | refine W.skip ?_ | refine W.exit ?_ | refine W.region tab_ok 0 (by decide) (exec_run (by simp (disch := omega) only [exa, beq_self_eq_true, ByteArray.size, Nat.reduceAdd, Nat.reduceLeDiff, Nat.reduceEqDiff, Nat.reduceMul, Int.reduceToNat, reduceIte, Int.reduceLE, Int.reduceNeg, app_bytes, if_le, List.length_append, List.length_cons, List.length_nil]; rfl)) ?_)
          refine W.cond rfl (fun h => absurd h (by decide)) (fun _ => ?_)
          repeat (first | refine W.seq ?_ | refine W.block ?_ | refine W.skip ?_ | refine W.exit ?_ | refine W.region tab_ok 0 (by decide) (exec_run (by simp (disch := omega) only [exa, beq_self_eq_true, ByteArray.size, Nat.reduceAdd, Nat.reduceLeDiff, Nat.reduceEqDiff, Nat.reduceMul, Int.reduceToNat, reduceIte, Int.reduceLE, Int.reduceNeg, app_bytes, if_le, List.length_append, List.length_cons, List.length_nil]; rfl)) ?_)
          repeat (first | refine W.seq ?_ | refine W.block ?_ | refine W.skip ?_ | refine W.exit ?_ | refine W.region tab_ok 0 (by decide) (exec_run (by simp only [exa, beq_self_eq_true, ByteArray.size, Nat.reduceAdd, Nat.reduceLeDiff, Nat.reduceEqDiff, Nat.reduceMul, Int.reduceToNat, reduceIte, Int.reduceLE, Int.reduceNeg]; rfl)) ?_)
          refine ⟨k + 1, hlt, by omega, ?_⟩
          rw [htk]
          refine le_mk ?sle ?mle ?swf ?mwf ?kept (by rfl)
          case kept => exact kept_not hkeep
          case swf => repeat (first | exact swf_top _ | refine swf_upd ?_ (by simp [A.ids, upd_app]))
          case mwf => repeat (first | exact mwf_nil _ | refine mwf_upd ?_ (by simp [A.ids, O.ids, upd_app]))
          case mle => repeat (first | exact mle_nil _ | exact mle_refl _ | refine mle_upd ?_ (by first | rfl | (simp only [upd_app, killM_app, Nat.reduceEqDiff, reduceIte, List.append_assoc, List.cons_append, List.nil_append, wrap_succ (show k + 1 < 9223372036854775808 by omega)]; done)))
          case sle => repeat (first | exact sle_top _ | exact sle_refl _ | refine sle_upd ?_ (by first | rfl | (simp only [upd_app, entry_zero, entry_succ, Nat.reduceEqDiff, reduceIte, List.append_assoc, List.cons_append, List.nil_append, wrap_succ (show k + 1 < 9223372036854775808 by omega)]; done)))
        | cons y r =>
          obtain rfl : r = [] := List.length_eq_zero_iff.1 (by have h := fe; rw [if_pos rfl] at h; simp only [List.length_cons] at h; omega)
          obtain ⟨yk, yn, ym, ys⟩ := y
          have hy := hA ⟨yk, yn, ym, ys⟩ (by simp)
          have hL : listE [⟨yk, yn, ym, ys⟩] = textX ⟨yk, yn, ym, ys⟩ := listE_one (fx _ (by simp))
          obtain ⟨Y, hY⟩ : ∃ Y, textX ⟨yk, yn, ym, ys⟩ = Y := ⟨_, rfl⟩
          rw [hY] at hy hL
          simp only [cExpr, cExprs] at hy hat
          have hbd : bodyS 1 sn tyl nml [⟨yk, yn, ym, ys⟩] t TA TB el.isEmpty = tyl ++ [32] ++ nml ++ ([32, 61, 32] ++ Y) ++ [59, 10] := by rw [← hL]; simp [bodyS]
          rw [hbd] at htk hln
          simp only [List.length_append, List.length_cons, List.length_nil] at hln
          repeat (first | refine W.seq ?_ | refine W.block ?_ | refine W.skip ?_ | refine W.exit ?_ | refine W.region tab_ok 0 (by decide) (exec_run (by simp (disch := omega) only [exa, beq_self_eq_true, ByteArray.size, Nat.reduceAdd, Nat.reduceLeDiff, Nat.reduceEqDiff, Nat.reduceMul, Int.reduceToNat, reduceIte, Int.reduceLE, Int.reduceNeg, app_bytes, if_le, List.length_append, List.length_cons, List.length_nil, hat]; rfl)) ?_)
          refine W.cond rfl (fun _ => ?_) (fun h => absurd h (by decide))
          (repeat (first | refine W.seq ?_ | refine W.block ?_ | refine W.skip ?_ | refine W.exit ?_))
          repeat (first | refine W.seq ?_ | refine W.block ?_ | refine W.skip ?_ | refine W.exit ?_ | refine W.region tab_ok 0 (by decide) (exec_run (by simp (disch := omega) only [exa, beq_self_eq_true, ByteArray.size, Nat.reduceAdd, Nat.reduceLeDiff, Nat.reduceEqDiff, Nat.reduceMul, Int.reduceToNat, reduceIte, Int.reduceLE, Int.reduceNeg, app_bytes, if_le, List.length_append, List.length_cons, List.length_nil]; rfl)) ?_)
          refine W.cond rfl (fun _ => ?_) (fun h => absurd h (by decide))
          (repeat (first | refine W.seq ?_ | refine W.block ?_ | refine W.skip ?_ | refine W.exit ?_))
          refine W.regionK tab_ok 0 (by decide) ?_
          refine runk_split 5 (by simp (disch := omega) only [exa, beq_self_eq_true, ByteArray.size, Nat.reduceAdd, Nat.reduceLeDiff, Nat.reduceEqDiff, Nat.reduceMul, Int.reduceToNat, reduceIte, Int.reduceLE, Int.reduceNeg, app_bytes, if_le, List.length_append, List.length_cons, List.length_nil]; rfl) ?_
          refine runk_call rfl rfl rfl rfl rfl (by simp) (cvs_cons cv_refl cvs_nil) (hy _) ?_
          refine runk_exec (by simp (disch := omega) only [exa, beq_self_eq_true, ByteArray.size, Nat.reduceAdd, Nat.reduceLeDiff, Nat.reduceEqDiff, Nat.reduceMul, Int.reduceToNat, reduceIte, Int.reduceLE, Int.reduceNeg, app_bytes, if_le, List.length_append, List.length_cons, List.length_nil]; rfl) ?_
          repeat (first | refine W.seq ?_ | refine W.block ?_ | refine W.skip ?_ | refine W.exit ?_ | refine W.region tab_ok 0 (by decide) (exec_run (by simp (disch := omega) only [exa, beq_self_eq_true, ByteArray.size, Nat.reduceAdd, Nat.reduceLeDiff, Nat.reduceEqDiff, Nat.reduceMul, Int.reduceToNat, reduceIte, Int.reduceLE, Int.reduceNeg, app_bytes, if_le, List.length_append, List.length_cons, List.length_nil]; rfl)) ?_)
          repeat (first | refine W.seq ?_ | refine W.block ?_ | refine W.skip ?_ | refine W.exit ?_ | refine W.region tab_ok 0 (by decide) (exec_run (by simp only [exa, beq_self_eq_true, ByteArray.size, Nat.reduceAdd, Nat.reduceLeDiff, Nat.reduceEqDiff, Nat.reduceMul, Int.reduceToNat, reduceIte, Int.reduceLE, Int.reduceNeg]; rfl)) ?_)
          refine ⟨k + 1, hlt, by omega, ?_⟩
          rw [htk]
          refine le_mk ?sle ?mle ?swf ?mwf ?kept (by rfl)
          case kept => exact kept_not hkeep
          case swf => repeat (first | exact swf_top _ | refine swf_upd ?_ (by simp [A.ids, upd_app]))
          case mwf => repeat (first | exact mwf_nil _ | refine mwf_upd ?_ (by simp [A.ids, O.ids, upd_app]))
          case mle => repeat (first | exact mle_nil _ | exact mle_refl _ | refine mle_upd ?_ (by first | rfl | (simp only [upd_app, killM_app, Nat.reduceEqDiff, reduceIte, List.append_assoc, List.cons_append, List.nil_append, wrap_succ (show k + 1 < 9223372036854775808 by omega)]; done)))
          case sle => repeat (first | exact sle_top _ | exact sle_refl _ | refine sle_upd ?_ (by first | rfl | (simp only [upd_app, entry_zero, entry_succ, Nat.reduceEqDiff, reduceIte, List.append_assoc, List.cons_append, List.nil_append, wrap_succ (show k + 1 < 9223372036854775808 by omega)]; done)))
      · obtain ⟨⟨yk, yn, ym, ys⟩, ⟨zk, zn, zm, zs⟩, rfl⟩ : ∃ y z, es = [y, z] := twoE (by rw [fe]; rfl)
        have hy := hA ⟨yk, yn, ym, ys⟩ (by simp)
        have hz2 := hA ⟨zk, zn, zm, zs⟩ (by simp)
        have hL1 : exprI [⟨yk, yn, ym, ys⟩, ⟨zk, zn, zm, zs⟩] 0 = textX ⟨yk, yn, ym, ys⟩ := exprX_one (fx _ (by simp))
        have hL2 : exprI [⟨yk, yn, ym, ys⟩, ⟨zk, zn, zm, zs⟩] 1 = textX ⟨zk, zn, zm, zs⟩ := exprX_one (fx _ (by simp))
        obtain ⟨Y, hY⟩ : ∃ Y, textX ⟨yk, yn, ym, ys⟩ = Y := ⟨_, rfl⟩
        obtain ⟨Z, hZ⟩ : ∃ Z, textX ⟨zk, zn, zm, zs⟩ = Z := ⟨_, rfl⟩
        rw [hY] at hy hL1
        rw [hZ] at hz2 hL2
        simp only [cExpr, cExprs] at hy hz2 hat
        have hbd : bodyS 2 sn tyl nml [⟨yk, yn, ym, ys⟩, ⟨zk, zn, zm, zs⟩] t TA TB el.isEmpty = Y ++ [32, 61, 32] ++ Z ++ [59, 10] := by rw [← hL1, ← hL2]; simp [bodyS]
        rw [hbd] at htk hln
        simp only [List.length_append, List.length_cons, List.length_nil] at hln
        repeat (first | refine W.seq ?_ | refine W.block ?_ | refine W.skip ?_ | refine W.exit ?_ | refine W.region tab_ok 0 (by decide) (exec_run (by simp (disch := omega) only [exa, beq_self_eq_true, ByteArray.size, Nat.reduceAdd, Nat.reduceLeDiff, Nat.reduceEqDiff, Nat.reduceMul, Int.reduceToNat, reduceIte, Int.reduceLE, Int.reduceNeg, app_bytes, if_le, List.length_append, List.length_cons, List.length_nil, hat]; rfl)) ?_)
        iterate 1 (refine W.cond rfl (fun h => absurd h (by decide)) (fun _ => ?_); repeat (first | refine W.seq ?_ | refine W.block ?_ | refine W.skip ?_ | refine W.exit ?_ | refine W.region tab_ok 0 (by decide) (exec_run (by simp only [exa, beq_self_eq_true, ByteArray.size, Nat.reduceAdd, Nat.reduceLeDiff, Nat.reduceEqDiff, Nat.reduceMul, Int.reduceToNat, reduceIte, Int.reduceLE, Int.reduceNeg]; rfl)) ?_))
        refine W.cond rfl (fun _ => ?_) (fun h => absurd h (by decide))
        (repeat (first | refine W.seq ?_ | refine W.block ?_ | refine W.skip ?_ | refine W.exit ?_))
        refine W.regionDK tab_ok 0 follows_mixed (by kernel_rfl) (by decide) ?_
        refine runk_split 5 (by simp (disch := omega) only [exa, beq_self_eq_true, ByteArray.size, Nat.reduceAdd, Nat.reduceLeDiff, Nat.reduceEqDiff, Nat.reduceMul, Int.reduceToNat, reduceIte, Int.reduceLE, Int.reduceNeg, app_bytes, if_le, List.length_append, List.length_cons, List.length_nil]; rfl) ?_
        refine runk_call rfl rfl rfl rfl rfl (by simp) (cvs_cons cv_refl cvs_nil) (hy _) ?_
        refine runk_split 5 (by simp (disch := omega) only [exa, beq_self_eq_true, ByteArray.size, Nat.reduceAdd, Nat.reduceLeDiff, Nat.reduceEqDiff, Nat.reduceMul, Int.reduceToNat, reduceIte, Int.reduceLE, Int.reduceNeg, app_bytes, if_le, List.length_append, List.length_cons, List.length_nil]; rfl) ?_
        refine runk_call rfl rfl rfl rfl rfl (by simp) (cvs_cons cv_refl cvs_nil) (hz2 _) ?_
        refine runk_exec (by simp (disch := omega) only [exa, beq_self_eq_true, ByteArray.size, Nat.reduceAdd, Nat.reduceLeDiff, Nat.reduceEqDiff, Nat.reduceMul, Int.reduceToNat, reduceIte, Int.reduceLE, Int.reduceNeg, app_bytes, if_le, List.length_append, List.length_cons, List.length_nil]; rfl) ?_
        repeat (first | refine W.seq ?_ | refine W.block ?_ | refine W.skip ?_ | refine W.exit ?_ | refine W.region tab_ok 0 (by decide) (exec_run (by simp only [exa, beq_self_eq_true, ByteArray.size, Nat.reduceAdd, Nat.reduceLeDiff, Nat.reduceEqDiff, Nat.reduceMul, Int.reduceToNat, reduceIte, Int.reduceLE, Int.reduceNeg]; rfl)) ?_)
        refine ⟨k + 1, hlt, by omega, ?_⟩
        rw [htk]
        refine le_mk ?sle ?mle ?swf ?mwf ?kept (by rfl)
        case kept => exact kept_not hkeep
        case swf => repeat (first | exact swf_top _ | refine swf_upd ?_ (by simp [A.ids, upd_app]))
        case mwf => repeat (first | exact mwf_nil _ | refine mwf_upd ?_ (by simp [A.ids, O.ids, upd_app]))
        case mle => repeat (first | exact mle_nil _ | exact mle_refl _ | refine mle_upd ?_ (by first | rfl | (simp only [upd_app, killM_app, Nat.reduceEqDiff, reduceIte, List.append_assoc, List.cons_append, List.nil_append, wrap_succ (show k + 1 < 9223372036854775808 by omega)]; done)))
        case sle => repeat (first | exact sle_top _ | exact sle_refl _ | refine sle_upd ?_ (by first | rfl | (simp only [upd_app, entry_zero, entry_succ, Nat.reduceEqDiff, reduceIte, List.append_assoc, List.cons_append, List.nil_append, wrap_succ (show k + 1 < 9223372036854775808 by omega)]; done)))
      · skip
        obtain ⟨y, rfl⟩ : ∃ y, es = [y] := oneE (by rw [fe]; rfl)
        obtain ⟨yk, yn, ym, ys⟩ := y
        have hy := hA ⟨yk, yn, ym, ys⟩ (by simp)
        have hL : listE [⟨yk, yn, ym, ys⟩] = textX ⟨yk, yn, ym, ys⟩ := listE_one (fx _ (by simp))
        obtain ⟨Y, hY⟩ : ∃ Y, textX ⟨yk, yn, ym, ys⟩ = Y := ⟨_, rfl⟩
        rw [hY] at hy hL
        simp only [cExpr, cExprs] at hy hat
        cases hel : el.isEmpty with
        | true =>
          have hbd : bodyS 3 sn tyl nml [⟨yk, yn, ym, ys⟩] t TA TB true = [105, 102, 32, 40] ++ Y ++ [41, 32] ++ ([123, 10] ++ TA ++ T ++ [125]) ++ [10] := by rw [← hL, ← hT]; simp [bodyS, brcX]
          rw [hel, hbd] at htk hln
          simp only [List.length_append, List.length_cons, List.length_nil] at hln
          obtain rfl : el = [] := List.isEmpty_iff.1 hel
          simp only [cStmts] at hat
          repeat (first | refine W.seq ?_ | refine W.block ?_ | refine W.skip ?_ | refine W.exit ?_ | refine W.region tab_ok 0 (by decide) (exec_run (by simp (disch := omega) only [exa, beq_self_eq_true, ByteArray.size, Nat.reduceAdd, Nat.reduceLeDiff, Nat.reduceEqDiff, Nat.reduceMul, Int.reduceToNat, reduceIte, Int.reduceLE, Int.reduceNeg, app_bytes, if_le, List.length_append, List.length_cons, List.length_nil, hat]; rfl)) ?_)
          iterate 2 (refine W.cond rfl (fun h => absurd h (by decide)) (fun _ => ?_); repeat (first | refine W.seq ?_ | refine W.block ?_ | refine W.skip ?_ | refine W.exit ?_ | refine W.region tab_ok 0 (by decide) (exec_run (by simp only [exa, beq_self_eq_true, ByteArray.size, Nat.reduceAdd, Nat.reduceLeDiff, Nat.reduceEqDiff, Nat.reduceMul, Int.reduceToNat, reduceIte, Int.reduceLE, Int.reduceNeg]; rfl)) ?_))
          refine W.cond rfl (fun _ => ?_) (fun h => absurd h (by decide))
          (repeat (first | refine W.seq ?_ | refine W.block ?_ | refine W.skip ?_ | refine W.exit ?_))
          refine W.regionDK tab_ok 0 follows_mixed (by kernel_rfl) (by decide) ?_
          refine runk_split 5 (by simp (disch := omega) only [exa, beq_self_eq_true, ByteArray.size, Nat.reduceAdd, Nat.reduceLeDiff, Nat.reduceEqDiff, Nat.reduceMul, Int.reduceToNat, reduceIte, Int.reduceLE, Int.reduceNeg, app_bytes, if_le, List.length_append, List.length_cons, List.length_nil]; rfl) ?_
          refine runk_call rfl rfl rfl rfl rfl (by simp) (cvs_cons cv_refl cvs_nil) (hy _) ?_
          refine runk_split 6 (by simp (disch := omega) only [exa, beq_self_eq_true, ByteArray.size, Nat.reduceAdd, Nat.reduceLeDiff, Nat.reduceEqDiff, Nat.reduceMul, Int.reduceToNat, reduceIte, Int.reduceLE, Int.reduceNeg, app_bytes, if_le, List.length_append, List.length_cons, List.length_nil]; rfl) ?_
          refine runk_call rfl rfl rfl rfl rfl (by simp) (cvs_cons cv_refl (cvs_cons cv_refl cvs_nil)) (hTh (by omega) _) ?_
          refine runk_exec (by simp (disch := omega) only [exa, beq_self_eq_true, ByteArray.size, Nat.reduceAdd, Nat.reduceLeDiff, Nat.reduceEqDiff, Nat.reduceMul, Int.reduceToNat, reduceIte, Int.reduceLE, Int.reduceNeg, app_bytes, if_le, List.length_append, List.length_cons, List.length_nil]; rfl) ?_
          repeat (first | refine W.seq ?_ | refine W.block ?_ | refine W.skip ?_ | refine W.exit ?_ | refine W.region tab_ok 0 (by decide) (exec_run (by simp (disch := omega) only [exa, beq_self_eq_true, ByteArray.size, Nat.reduceAdd, Nat.reduceLeDiff, Nat.reduceEqDiff, Nat.reduceMul, Int.reduceToNat, reduceIte, Int.reduceLE, Int.reduceNeg, app_bytes, if_le, List.length_append, List.length_cons, List.length_nil]; rfl)) ?_)
          refine W.cond rfl (fun h => absurd h (by decide)) (fun _ => ?_)
          repeat (first | refine W.seq ?_ | refine W.block ?_ | refine W.skip ?_ | refine W.exit ?_ | refine W.region tab_ok 0 (by decide) (exec_run (by simp (disch := omega) only [exa, beq_self_eq_true, ByteArray.size, Nat.reduceAdd, Nat.reduceLeDiff, Nat.reduceEqDiff, Nat.reduceMul, Int.reduceToNat, reduceIte, Int.reduceLE, Int.reduceNeg, app_bytes, if_le, List.length_append, List.length_cons, List.length_nil]; rfl)) ?_)
          repeat (first | refine W.seq ?_ | refine W.block ?_ | refine W.skip ?_ | refine W.exit ?_ | refine W.region tab_ok 0 (by decide) (exec_run (by simp only [exa, beq_self_eq_true, ByteArray.size, Nat.reduceAdd, Nat.reduceLeDiff, Nat.reduceEqDiff, Nat.reduceMul, Int.reduceToNat, reduceIte, Int.reduceLE, Int.reduceNeg]; rfl)) ?_)
          refine ⟨k + 1, hlt, by omega, ?_⟩
          rw [htk]
          refine le_mk ?sle ?mle ?swf ?mwf ?kept (by rfl)
          case kept => exact kept_not hkeep
          case swf => repeat (first | exact swf_top _ | refine swf_upd ?_ (by simp [A.ids, upd_app]))
          case mwf => repeat (first | exact mwf_nil _ | refine mwf_upd ?_ (by simp [A.ids, O.ids, upd_app]))
          case mle => repeat (first | exact mle_nil _ | exact mle_refl _ | refine mle_upd ?_ (by first | rfl | (simp only [upd_app, killM_app, Nat.reduceEqDiff, reduceIte, List.append_assoc, List.cons_append, List.nil_append, wrap_succ (show k + 1 < 9223372036854775808 by omega)]; done)))
          case sle => repeat (first | exact sle_top _ | exact sle_refl _ | refine sle_upd ?_ (by first | rfl | (simp only [upd_app, entry_zero, entry_succ, Nat.reduceEqDiff, reduceIte, List.append_assoc, List.cons_append, List.nil_append, wrap_succ (show k + 1 < 9223372036854775808 by omega)]; done)))
        | false =>
          have hbd : bodyS 3 sn tyl nml [⟨yk, yn, ym, ys⟩] t TA TB false = [105, 102, 32, 40] ++ Y ++ [41, 32] ++ ([123, 10] ++ TA ++ T ++ [125]) ++ ([32, 101, 108, 115, 101, 32] ++ ([123, 10] ++ TB ++ T ++ [125])) ++ [10] := by rw [← hL, ← hT]; simp [bodyS, brcX]
          rw [hel, hbd] at htk hln
          simp only [List.length_append, List.length_cons, List.length_nil] at hln
          have hne : 0 < (cStmts el).length := by
            rw [cStmts_map, List.length_map]
            cases el with
            | nil => cases hel
            | cons a b => simp
          obtain ⟨EL, hEL⟩ : ∃ EL, cStmts el = EL := ⟨_, rfl⟩
          rw [hEL] at hne hEl hat
          repeat (first | refine W.seq ?_ | refine W.block ?_ | refine W.skip ?_ | refine W.exit ?_ | refine W.region tab_ok 0 (by decide) (exec_run (by simp (disch := omega) only [exa, beq_self_eq_true, ByteArray.size, Nat.reduceAdd, Nat.reduceLeDiff, Nat.reduceEqDiff, Nat.reduceMul, Int.reduceToNat, reduceIte, Int.reduceLE, Int.reduceNeg, app_bytes, if_le, List.length_append, List.length_cons, List.length_nil, hat]; rfl)) ?_)
          iterate 2 (refine W.cond rfl (fun h => absurd h (by decide)) (fun _ => ?_); repeat (first | refine W.seq ?_ | refine W.block ?_ | refine W.skip ?_ | refine W.exit ?_ | refine W.region tab_ok 0 (by decide) (exec_run (by simp only [exa, beq_self_eq_true, ByteArray.size, Nat.reduceAdd, Nat.reduceLeDiff, Nat.reduceEqDiff, Nat.reduceMul, Int.reduceToNat, reduceIte, Int.reduceLE, Int.reduceNeg]; rfl)) ?_))
          refine W.cond rfl (fun _ => ?_) (fun h => absurd h (by decide))
          (repeat (first | refine W.seq ?_ | refine W.block ?_ | refine W.skip ?_ | refine W.exit ?_))
          refine W.regionDK tab_ok 0 follows_mixed (by kernel_rfl) (by decide) ?_
          refine runk_split 5 (by simp (disch := omega) only [exa, beq_self_eq_true, ByteArray.size, Nat.reduceAdd, Nat.reduceLeDiff, Nat.reduceEqDiff, Nat.reduceMul, Int.reduceToNat, reduceIte, Int.reduceLE, Int.reduceNeg, app_bytes, if_le, List.length_append, List.length_cons, List.length_nil]; rfl) ?_
          refine runk_call rfl rfl rfl rfl rfl (by simp) (cvs_cons cv_refl cvs_nil) (hy _) ?_
          refine runk_split 6 (by simp (disch := omega) only [exa, beq_self_eq_true, ByteArray.size, Nat.reduceAdd, Nat.reduceLeDiff, Nat.reduceEqDiff, Nat.reduceMul, Int.reduceToNat, reduceIte, Int.reduceLE, Int.reduceNeg, app_bytes, if_le, List.length_append, List.length_cons, List.length_nil]; rfl) ?_
          refine runk_call rfl rfl rfl rfl rfl (by simp) (cvs_cons cv_refl (cvs_cons cv_refl cvs_nil)) (hTh (by omega) _) ?_
          refine runk_exec (by simp (disch := omega) only [exa, beq_self_eq_true, ByteArray.size, Nat.reduceAdd, Nat.reduceLeDiff, Nat.reduceEqDiff, Nat.reduceMul, Int.reduceToNat, reduceIte, Int.reduceLE, Int.reduceNeg, app_bytes, if_le, List.length_append, List.length_cons, List.length_nil]; rfl) ?_
          repeat (first | refine W.seq ?_ | refine W.block ?_ | refine W.skip ?_ | refine W.exit ?_ | refine W.region tab_ok 0 (by decide) (exec_run (by simp (disch := omega) only [exa, beq_self_eq_true, ByteArray.size, Nat.reduceAdd, Nat.reduceLeDiff, Nat.reduceEqDiff, Nat.reduceMul, Int.reduceToNat, reduceIte, Int.reduceLE, Int.reduceNeg, app_bytes, if_le, List.length_append, List.length_cons, List.length_nil]; rfl)) ?_)
          refine W.cond rfl (fun _ => ?_) (fun h => absurd (of_decide_eq_false h) (by omega))
          (repeat (first | refine W.seq ?_ | refine W.block ?_ | refine W.skip ?_ | refine W.exit ?_))
          refine W.regionK tab_ok 0 (by decide) ?_
          refine runk_split 5 (by simp (disch := omega) only [exa, beq_self_eq_true, ByteArray.size, Nat.reduceAdd, Nat.reduceLeDiff, Nat.reduceEqDiff, Nat.reduceMul, Int.reduceToNat, reduceIte, Int.reduceLE, Int.reduceNeg, app_bytes, if_le, List.length_append, List.length_cons, List.length_nil]; rfl) ?_
          refine runk_call rfl rfl rfl rfl rfl (by simp) (cvs_cons cv_refl (cvs_cons cv_refl cvs_nil)) (hEl (by omega) _) ?_
          refine runk_exec (by simp (disch := omega) only [exa, beq_self_eq_true, ByteArray.size, Nat.reduceAdd, Nat.reduceLeDiff, Nat.reduceEqDiff, Nat.reduceMul, Int.reduceToNat, reduceIte, Int.reduceLE, Int.reduceNeg, app_bytes, if_le, List.length_append, List.length_cons, List.length_nil]; rfl) ?_
          repeat (first | refine W.seq ?_ | refine W.block ?_ | refine W.skip ?_ | refine W.exit ?_ | refine W.region tab_ok 0 (by decide) (exec_run (by simp (disch := omega) only [exa, beq_self_eq_true, ByteArray.size, Nat.reduceAdd, Nat.reduceLeDiff, Nat.reduceEqDiff, Nat.reduceMul, Int.reduceToNat, reduceIte, Int.reduceLE, Int.reduceNeg, app_bytes, if_le, List.length_append, List.length_cons, List.length_nil]; rfl)) ?_)
          repeat (first | refine W.seq ?_ | refine W.block ?_ | refine W.skip ?_ | refine W.exit ?_ | refine W.region tab_ok 0 (by decide) (exec_run (by simp only [exa, beq_self_eq_true, ByteArray.size, Nat.reduceAdd, Nat.reduceLeDiff, Nat.reduceEqDiff, Nat.reduceMul, Int.reduceToNat, reduceIte, Int.reduceLE, Int.reduceNeg]; rfl)) ?_)
          refine ⟨k + 1, hlt, by omega, ?_⟩
          rw [htk]
          refine le_mk ?sle ?mle ?swf ?mwf ?kept (by rfl)
          case kept => exact kept_not hkeep
          case swf => repeat (first | exact swf_top _ | refine swf_upd ?_ (by simp [A.ids, upd_app]))
          case mwf => repeat (first | exact mwf_nil _ | refine mwf_upd ?_ (by simp [A.ids, O.ids, upd_app]))
          case mle => repeat (first | exact mle_nil _ | exact mle_refl _ | refine mle_upd ?_ (by first | rfl | (simp only [upd_app, killM_app, Nat.reduceEqDiff, reduceIte, List.append_assoc, List.cons_append, List.nil_append, wrap_succ (show k + 1 < 9223372036854775808 by omega)]; done)))
          case sle => repeat (first | exact sle_top _ | exact sle_refl _ | refine sle_upd ?_ (by first | rfl | (simp only [upd_app, entry_zero, entry_succ, Nat.reduceEqDiff, reduceIte, List.append_assoc, List.cons_append, List.nil_append, wrap_succ (show k + 1 < 9223372036854775808 by omega)]; done)))
      · skip
        obtain ⟨y, rfl⟩ : ∃ y, es = [y] := oneE (by rw [fe]; rfl)
        obtain ⟨yk, yn, ym, ys⟩ := y
        have hy := hA ⟨yk, yn, ym, ys⟩ (by simp)
        have hL : listE [⟨yk, yn, ym, ys⟩] = textX ⟨yk, yn, ym, ys⟩ := listE_one (fx _ (by simp))
        obtain ⟨Y, hY⟩ : ∃ Y, textX ⟨yk, yn, ym, ys⟩ = Y := ⟨_, rfl⟩
        rw [hY] at hy hL
        simp only [cExpr, cExprs] at hy hat
        obtain rfl : el = [] := f4 (by decide)
        have hbd : bodyS 4 sn tyl nml [⟨yk, yn, ym, ys⟩] t TA TB true = [119, 104, 105, 108, 101, 32, 40] ++ Y ++ [41, 32] ++ ([123, 10] ++ TA ++ T ++ [125]) ++ [10] := by rw [← hL, ← hT]; simp [bodyS, brcX]
        rw [List.isEmpty_nil, hbd] at htk hln
        simp only [List.length_append, List.length_cons, List.length_nil] at hln
        repeat (first | refine W.seq ?_ | refine W.block ?_ | refine W.skip ?_ | refine W.exit ?_ | refine W.region tab_ok 0 (by decide) (exec_run (by simp (disch := omega) only [exa, beq_self_eq_true, ByteArray.size, Nat.reduceAdd, Nat.reduceLeDiff, Nat.reduceEqDiff, Nat.reduceMul, Int.reduceToNat, reduceIte, Int.reduceLE, Int.reduceNeg, app_bytes, if_le, List.length_append, List.length_cons, List.length_nil, hat]; rfl)) ?_)
        iterate 3 (refine W.cond rfl (fun h => absurd h (by decide)) (fun _ => ?_); repeat (first | refine W.seq ?_ | refine W.block ?_ | refine W.skip ?_ | refine W.exit ?_ | refine W.region tab_ok 0 (by decide) (exec_run (by simp only [exa, beq_self_eq_true, ByteArray.size, Nat.reduceAdd, Nat.reduceLeDiff, Nat.reduceEqDiff, Nat.reduceMul, Int.reduceToNat, reduceIte, Int.reduceLE, Int.reduceNeg]; rfl)) ?_))
        refine W.cond rfl (fun _ => ?_) (fun h => absurd h (by decide))
        (repeat (first | refine W.seq ?_ | refine W.block ?_ | refine W.skip ?_ | refine W.exit ?_))
        refine W.regionDK tab_ok 0 follows_mixed (by kernel_rfl) (by decide) ?_
        refine runk_split 5 (by simp (disch := omega) only [exa, beq_self_eq_true, ByteArray.size, Nat.reduceAdd, Nat.reduceLeDiff, Nat.reduceEqDiff, Nat.reduceMul, Int.reduceToNat, reduceIte, Int.reduceLE, Int.reduceNeg, app_bytes, if_le, List.length_append, List.length_cons, List.length_nil]; rfl) ?_
        refine runk_call rfl rfl rfl rfl rfl (by simp) (cvs_cons cv_refl cvs_nil) (hy _) ?_
        refine runk_split 6 (by simp (disch := omega) only [exa, beq_self_eq_true, ByteArray.size, Nat.reduceAdd, Nat.reduceLeDiff, Nat.reduceEqDiff, Nat.reduceMul, Int.reduceToNat, reduceIte, Int.reduceLE, Int.reduceNeg, app_bytes, if_le, List.length_append, List.length_cons, List.length_nil]; rfl) ?_
        refine runk_call rfl rfl rfl rfl rfl (by simp) (cvs_cons cv_refl (cvs_cons cv_refl cvs_nil)) (hTh (by omega) _) ?_
        refine runk_exec (by simp (disch := omega) only [exa, beq_self_eq_true, ByteArray.size, Nat.reduceAdd, Nat.reduceLeDiff, Nat.reduceEqDiff, Nat.reduceMul, Int.reduceToNat, reduceIte, Int.reduceLE, Int.reduceNeg, app_bytes, if_le, List.length_append, List.length_cons, List.length_nil]; rfl) ?_
        repeat (first | refine W.seq ?_ | refine W.block ?_ | refine W.skip ?_ | refine W.exit ?_ | refine W.region tab_ok 0 (by decide) (exec_run (by simp only [exa, beq_self_eq_true, ByteArray.size, Nat.reduceAdd, Nat.reduceLeDiff, Nat.reduceEqDiff, Nat.reduceMul, Int.reduceToNat, reduceIte, Int.reduceLE, Int.reduceNeg]; rfl)) ?_)
        refine ⟨k + 1, hlt, by omega, ?_⟩
        rw [htk]
        refine le_mk ?sle ?mle ?swf ?mwf ?kept (by rfl)
        case kept => exact kept_not hkeep
        case swf => repeat (first | exact swf_top _ | refine swf_upd ?_ (by simp [A.ids, upd_app]))
        case mwf => repeat (first | exact mwf_nil _ | refine mwf_upd ?_ (by simp [A.ids, O.ids, upd_app]))
        case mle => repeat (first | exact mle_nil _ | exact mle_refl _ | refine mle_upd ?_ (by first | rfl | (simp only [upd_app, killM_app, Nat.reduceEqDiff, reduceIte, List.append_assoc, List.cons_append, List.nil_append, wrap_succ (show k + 1 < 9223372036854775808 by omega)]; done)))
        case sle => repeat (first | exact sle_top _ | exact sle_refl _ | refine sle_upd ?_ (by first | rfl | (simp only [upd_app, entry_zero, entry_succ, Nat.reduceEqDiff, reduceIte, List.append_assoc, List.cons_append, List.nil_append, wrap_succ (show k + 1 < 9223372036854775808 by omega)]; done)))
      · skip
        obtain ⟨y, rfl⟩ : ∃ y, es = [y] := oneE (by rw [fe]; rfl)
        obtain ⟨yk, yn, ym, ys⟩ := y
        have hy := hA ⟨yk, yn, ym, ys⟩ (by simp)
        have hL : listE [⟨yk, yn, ym, ys⟩] = textX ⟨yk, yn, ym, ys⟩ := listE_one (fx _ (by simp))
        obtain ⟨Y, hY⟩ : ∃ Y, textX ⟨yk, yn, ym, ys⟩ = Y := ⟨_, rfl⟩
        rw [hY] at hy hL
        simp only [cExpr, cExprs] at hy hat
        have hbd : bodyS 5 sn tyl nml [⟨yk, yn, ym, ys⟩] t TA TB el.isEmpty = [112, 114, 105, 110, 116, 40] ++ Lib.itoa sn ++ [44, 32] ++ Y ++ [41] ++ [59, 10] := by rw [← hL]; simp [bodyS]
        rw [hbd] at htk hln
        simp only [List.length_append, List.length_cons, List.length_nil] at hln
        repeat (first | refine W.seq ?_ | refine W.block ?_ | refine W.skip ?_ | refine W.exit ?_ | refine W.region tab_ok 0 (by decide) (exec_run (by simp (disch := omega) only [exa, beq_self_eq_true, ByteArray.size, Nat.reduceAdd, Nat.reduceLeDiff, Nat.reduceEqDiff, Nat.reduceMul, Int.reduceToNat, reduceIte, Int.reduceLE, Int.reduceNeg, app_bytes, if_le, List.length_append, List.length_cons, List.length_nil, hat]; rfl)) ?_)
        iterate 4 (refine W.cond rfl (fun h => absurd h (by decide)) (fun _ => ?_); repeat (first | refine W.seq ?_ | refine W.block ?_ | refine W.skip ?_ | refine W.exit ?_ | refine W.region tab_ok 0 (by decide) (exec_run (by simp only [exa, beq_self_eq_true, ByteArray.size, Nat.reduceAdd, Nat.reduceLeDiff, Nat.reduceEqDiff, Nat.reduceMul, Int.reduceToNat, reduceIte, Int.reduceLE, Int.reduceNeg]; rfl)) ?_))
        refine W.cond rfl (fun _ => ?_) (fun h => absurd h (by decide))
        (repeat (first | refine W.seq ?_ | refine W.block ?_ | refine W.skip ?_ | refine W.exit ?_))
        refine W.regionDK tab_ok 0 follows_mixed (by kernel_rfl) (by decide) ?_
        refine runk_split 3 (by simp (disch := omega) only [exa, beq_self_eq_true, ByteArray.size, Nat.reduceAdd, Nat.reduceLeDiff, Nat.reduceEqDiff, Nat.reduceMul, Int.reduceToNat, reduceIte, Int.reduceLE, Int.reduceNeg, app_bytes, if_le, List.length_append, List.length_cons, List.length_nil]; rfl) ?_
        refine runk_call rfl rfl rfl rfl rfl (by simp) (cvs_cons cv_refl cvs_nil) (num01_ok sn f2.1 (by omega) _) ?_
        refine runk_split 6 (by simp (disch := omega) only [exa, beq_self_eq_true, ByteArray.size, Nat.reduceAdd, Nat.reduceLeDiff, Nat.reduceEqDiff, Nat.reduceMul, Int.reduceToNat, reduceIte, Int.reduceLE, Int.reduceNeg, app_bytes, if_le, List.length_append, List.length_cons, List.length_nil]; rfl) ?_
        refine runk_call rfl rfl rfl rfl rfl (by simp) (cvs_cons cv_refl cvs_nil) (hy _) ?_
        refine runk_exec (by simp (disch := omega) only [exa, beq_self_eq_true, ByteArray.size, Nat.reduceAdd, Nat.reduceLeDiff, Nat.reduceEqDiff, Nat.reduceMul, Int.reduceToNat, reduceIte, Int.reduceLE, Int.reduceNeg, app_bytes, if_le, List.length_append, List.length_cons, List.length_nil]; rfl) ?_
        repeat (first | refine W.seq ?_ | refine W.block ?_ | refine W.skip ?_ | refine W.exit ?_ | refine W.region tab_ok 0 (by decide) (exec_run (by simp only [exa, beq_self_eq_true, ByteArray.size, Nat.reduceAdd, Nat.reduceLeDiff, Nat.reduceEqDiff, Nat.reduceMul, Int.reduceToNat, reduceIte, Int.reduceLE, Int.reduceNeg]; rfl)) ?_)
        refine ⟨k + 1, hlt, by omega, ?_⟩
        rw [htk]
        refine le_mk ?sle ?mle ?swf ?mwf ?kept (by rfl)
        case kept => exact kept_not hkeep
        case swf => repeat (first | exact swf_top _ | refine swf_upd ?_ (by simp [A.ids, upd_app]))
        case mwf => repeat (first | exact mwf_nil _ | refine mwf_upd ?_ (by simp [A.ids, O.ids, upd_app]))
        case mle => repeat (first | exact mle_nil _ | exact mle_refl _ | refine mle_upd ?_ (by first | rfl | (simp only [upd_app, killM_app, Nat.reduceEqDiff, reduceIte, List.append_assoc, List.cons_append, List.nil_append, wrap_succ (show k + 1 < 9223372036854775808 by omega)]; done)))
        case sle => repeat (first | exact sle_top _ | exact sle_refl _ | refine sle_upd ?_ (by first | rfl | (simp only [upd_app, entry_zero, entry_succ, Nat.reduceEqDiff, reduceIte, List.append_assoc, List.cons_append, List.nil_append, wrap_succ (show k + 1 < 9223372036854775808 by omega)]; done)))
      · skip
        obtain ⟨y, rfl⟩ : ∃ y, es = [y] := oneE (by rw [fe]; rfl)
        obtain ⟨yk, yn, ym, ys⟩ := y
        have hy := hA ⟨yk, yn, ym, ys⟩ (by simp)
        have hL : listE [⟨yk, yn, ym, ys⟩] = textX ⟨yk, yn, ym, ys⟩ := listE_one (fx _ (by simp))
        obtain ⟨Y, hY⟩ : ∃ Y, textX ⟨yk, yn, ym, ys⟩ = Y := ⟨_, rfl⟩
        rw [hY] at hy hL
        simp only [cExpr, cExprs] at hy hat
        have hbd : bodyS 6 sn tyl nml [⟨yk, yn, ym, ys⟩] t TA TB el.isEmpty = [114, 101, 116, 117, 114, 110, 32] ++ Y ++ [59, 10] := by rw [← hL]; simp [bodyS]
        rw [hbd] at htk hln
        simp only [List.length_append, List.length_cons, List.length_nil] at hln
        repeat (first | refine W.seq ?_ | refine W.block ?_ | refine W.skip ?_ | refine W.exit ?_ | refine W.region tab_ok 0 (by decide) (exec_run (by simp (disch := omega) only [exa, beq_self_eq_true, ByteArray.size, Nat.reduceAdd, Nat.reduceLeDiff, Nat.reduceEqDiff, Nat.reduceMul, Int.reduceToNat, reduceIte, Int.reduceLE, Int.reduceNeg, app_bytes, if_le, List.length_append, List.length_cons, List.length_nil, hat]; rfl)) ?_)
        iterate 5 (refine W.cond rfl (fun h => absurd h (by decide)) (fun _ => ?_); repeat (first | refine W.seq ?_ | refine W.block ?_ | refine W.skip ?_ | refine W.exit ?_ | refine W.region tab_ok 0 (by decide) (exec_run (by simp only [exa, beq_self_eq_true, ByteArray.size, Nat.reduceAdd, Nat.reduceLeDiff, Nat.reduceEqDiff, Nat.reduceMul, Int.reduceToNat, reduceIte, Int.reduceLE, Int.reduceNeg]; rfl)) ?_))
        refine W.cond rfl (fun _ => ?_) (fun h => absurd h (by decide))
        (repeat (first | refine W.seq ?_ | refine W.block ?_ | refine W.skip ?_ | refine W.exit ?_))
        refine W.regionK tab_ok 0 (by decide) ?_
        refine runk_split 5 (by simp (disch := omega) only [exa, beq_self_eq_true, ByteArray.size, Nat.reduceAdd, Nat.reduceLeDiff, Nat.reduceEqDiff, Nat.reduceMul, Int.reduceToNat, reduceIte, Int.reduceLE, Int.reduceNeg, app_bytes, if_le, List.length_append, List.length_cons, List.length_nil]; rfl) ?_
        refine runk_call rfl rfl rfl rfl rfl (by simp) (cvs_cons cv_refl cvs_nil) (hy _) ?_
        refine runk_exec (by simp (disch := omega) only [exa, beq_self_eq_true, ByteArray.size, Nat.reduceAdd, Nat.reduceLeDiff, Nat.reduceEqDiff, Nat.reduceMul, Int.reduceToNat, reduceIte, Int.reduceLE, Int.reduceNeg, app_bytes, if_le, List.length_append, List.length_cons, List.length_nil]; rfl) ?_
        repeat (first | refine W.seq ?_ | refine W.block ?_ | refine W.skip ?_ | refine W.exit ?_ | refine W.region tab_ok 0 (by decide) (exec_run (by simp only [exa, beq_self_eq_true, ByteArray.size, Nat.reduceAdd, Nat.reduceLeDiff, Nat.reduceEqDiff, Nat.reduceMul, Int.reduceToNat, reduceIte, Int.reduceLE, Int.reduceNeg]; rfl)) ?_)
        refine ⟨k + 1, hlt, by omega, ?_⟩
        rw [htk]
        refine le_mk ?sle ?mle ?swf ?mwf ?kept (by rfl)
        case kept => exact kept_not hkeep
        case swf => repeat (first | exact swf_top _ | refine swf_upd ?_ (by simp [A.ids, upd_app]))
        case mwf => repeat (first | exact mwf_nil _ | refine mwf_upd ?_ (by simp [A.ids, O.ids, upd_app]))
        case mle => repeat (first | exact mle_nil _ | exact mle_refl _ | refine mle_upd ?_ (by first | rfl | (simp only [upd_app, killM_app, Nat.reduceEqDiff, reduceIte, List.append_assoc, List.cons_append, List.nil_append, wrap_succ (show k + 1 < 9223372036854775808 by omega)]; done)))
        case sle => repeat (first | exact sle_top _ | exact sle_refl _ | refine sle_upd ?_ (by first | rfl | (simp only [upd_app, entry_zero, entry_succ, Nat.reduceEqDiff, reduceIte, List.append_assoc, List.cons_append, List.nil_append, wrap_succ (show k + 1 < 9223372036854775808 by omega)]; done)))
      · skip
        obtain ⟨y, rfl⟩ : ∃ y, es = [y] := oneE (by rw [fe]; rfl)
        obtain ⟨yk, yn, ym, ys⟩ := y
        have hy := hA ⟨yk, yn, ym, ys⟩ (by simp)
        have hL : listE [⟨yk, yn, ym, ys⟩] = textX ⟨yk, yn, ym, ys⟩ := listE_one (fx _ (by simp))
        obtain ⟨Y, hY⟩ : ∃ Y, textX ⟨yk, yn, ym, ys⟩ = Y := ⟨_, rfl⟩
        rw [hY] at hy hL
        simp only [cExpr, cExprs] at hy hat
        have hbd : bodyS 7 sn tyl nml [⟨yk, yn, ym, ys⟩] t TA TB el.isEmpty = Y ++ [59, 10] := by rw [← hL]; simp [bodyS]
        rw [hbd] at htk hln
        simp only [List.length_append, List.length_cons, List.length_nil] at hln
        repeat (first | refine W.seq ?_ | refine W.block ?_ | refine W.skip ?_ | refine W.exit ?_ | refine W.region tab_ok 0 (by decide) (exec_run (by simp (disch := omega) only [exa, beq_self_eq_true, ByteArray.size, Nat.reduceAdd, Nat.reduceLeDiff, Nat.reduceEqDiff, Nat.reduceMul, Int.reduceToNat, reduceIte, Int.reduceLE, Int.reduceNeg, app_bytes, if_le, List.length_append, List.length_cons, List.length_nil, hat]; rfl)) ?_)
        iterate 6 (refine W.cond rfl (fun h => absurd h (by decide)) (fun _ => ?_); repeat (first | refine W.seq ?_ | refine W.block ?_ | refine W.skip ?_ | refine W.exit ?_ | refine W.region tab_ok 0 (by decide) (exec_run (by simp only [exa, beq_self_eq_true, ByteArray.size, Nat.reduceAdd, Nat.reduceLeDiff, Nat.reduceEqDiff, Nat.reduceMul, Int.reduceToNat, reduceIte, Int.reduceLE, Int.reduceNeg]; rfl)) ?_))
        (repeat (first | refine W.seq ?_ | refine W.block ?_ | refine W.skip ?_ | refine W.exit ?_))
        refine W.regionK tab_ok 0 (by decide) ?_
        refine runk_split 5 (by simp (disch := omega) only [exa, beq_self_eq_true, ByteArray.size, Nat.reduceAdd, Nat.reduceLeDiff, Nat.reduceEqDiff, Nat.reduceMul, Int.reduceToNat, reduceIte, Int.reduceLE, Int.reduceNeg, app_bytes, if_le, List.length_append, List.length_cons, List.length_nil]; rfl) ?_
        refine runk_call rfl rfl rfl rfl rfl (by simp) (cvs_cons cv_refl cvs_nil) (hy _) ?_
        refine runk_exec (by simp (disch := omega) only [exa, beq_self_eq_true, ByteArray.size, Nat.reduceAdd, Nat.reduceLeDiff, Nat.reduceEqDiff, Nat.reduceMul, Int.reduceToNat, reduceIte, Int.reduceLE, Int.reduceNeg, app_bytes, if_le, List.length_append, List.length_cons, List.length_nil]; rfl) ?_
        repeat (first | refine W.seq ?_ | refine W.block ?_ | refine W.skip ?_ | refine W.exit ?_ | refine W.region tab_ok 0 (by decide) (exec_run (by simp only [exa, beq_self_eq_true, ByteArray.size, Nat.reduceAdd, Nat.reduceLeDiff, Nat.reduceEqDiff, Nat.reduceMul, Int.reduceToNat, reduceIte, Int.reduceLE, Int.reduceNeg]; rfl)) ?_)
        refine ⟨k + 1, hlt, by omega, ?_⟩
        rw [htk]
        refine le_mk ?sle ?mle ?swf ?mwf ?kept (by rfl)
        case kept => exact kept_not hkeep
        case swf => repeat (first | exact swf_top _ | refine swf_upd ?_ (by simp [A.ids, upd_app]))
        case mwf => repeat (first | exact mwf_nil _ | refine mwf_upd ?_ (by simp [A.ids, O.ids, upd_app]))
        case mle => repeat (first | exact mle_nil _ | exact mle_refl _ | refine mle_upd ?_ (by first | rfl | (simp only [upd_app, killM_app, Nat.reduceEqDiff, reduceIte, List.append_assoc, List.cons_append, List.nil_append, wrap_succ (show k + 1 < 9223372036854775808 by omega)]; done)))
        case sle => repeat (first | exact sle_top _ | exact sle_refl _ | refine sle_upd ?_ (by first | rfl | (simp only [upd_app, entry_zero, entry_succ, Nat.reduceEqDiff, reduceIte, List.append_assoc, List.cons_append, List.nil_append, wrap_succ (show k + 1 < 9223372036854775808 by omega)]; done)))
    · intro hge
      simp only [decide_eq_false_iff_not, Int.ofNat_lt] at hge
      obtain rfl : k = l.length := by omega
      rw [List.take_length]
      repeat (first | refine W.seq ?_ | refine W.block ?_ | refine W.skip ?_ | refine W.exit ?_ | refine W.region tab_ok 0 (by decide) (exec_run (by simp only [exa, beq_self_eq_true, ByteArray.size, Nat.reduceAdd, Nat.reduceLeDiff, Nat.reduceEqDiff, Nat.reduceMul, Int.reduceToNat, reduceIte, Int.reduceLE, Int.reduceNeg]; rfl)) ?_)
      refine W.ret ⟨.inr rfl, by rfl, ?_⟩
      simp only [Tryd.f29, resA, resOne, toT, fin, exa, beq_self_eq_true, ByteArray.size, Nat.reduceAdd, Nat.reduceLeDiff, Nat.reduceEqDiff, Nat.reduceMul, Int.reduceToNat, reduceIte, Int.reduceLE, Int.reduceNeg]
end V
end Go.Proofs.YtbmbmcdaabhgnaaDoor
end
section
set_option linter.unusedVariables false
set_option linter.unusedSimpArgs false
namespace Go.Proofs.YtbmbmcdaabhgnaaDoor
namespace V
open Go.RowKit
theorem commaF_take {α : Type} (f : α → List UInt8) {l : List α} {k : Nat} {x : α} (h : l[k]? = some x) : commaX ((l.map f).take (k + 1)) = commaX ((l.map f).take k) ++ (if k = 0 then [] else [44, 32]) ++ f x := by
  have hk : k < l.length := (List.getElem?_eq_some_iff.1 h).1
  have : (l.map f).take (k + 1) = (l.map f).take k ++ [f x] := by
    rw [List.take_add_one, List.getElem?_map, h]
    rfl
  rw [this, commaX_snoc]
  have : ((l.map f).take k).isEmpty = decide (k = 0) := by
    cases k with
    | zero => simp
    | succ k => cases l with
      | nil => simp at hk
      | cons a l => simp
  rw [this]
  by_cases hk0 : k = 0 <;> simp [hk0]
set_option maxHeartbeats 4000000 in
theorem rmeth_ok (me : Method) (hb : methodB me = true) (hc : cntSs me.body ≤ 1048576) (m : Mem) : COk Tryd.prog 28 [.agg (cMethod me)] m (.c (.str (strX (methX me)))) := by
  obtain ⟨ty, nm, ps, bd⟩ := me
  obtain ⟨tyl, rfl⟩ : ∃ nl, ty = strX nl := ⟨_, strX_of ty⟩
  obtain ⟨nml, rfl⟩ : ∃ nl, nm = strX nl := ⟨_, strX_of nm⟩
  unfold methodB slotB at hb
  simp only [Bool.and_eq_true, decide_eq_true_eq, List.all_eq_true] at hb
  obtain ⟨⟨⟨⟨ht1, ht2⟩, hp4⟩, hpB⟩, hbB⟩ := hb
  have ht1 : tyl.length ≤ 16 := by have := type_len ht1; simpa [strX] using this
  have ht2 : nml.length ≤ 16 := by have := name_len ht2; simpa [strX] using this
  have hpB : ∀ s ∈ ps, (slotX s).length ≤ 33 := fun s hs => slotX_len (by unfold slotB; simpa using hpB s hs)
  have hCl := commaX_len (ps.map slotX) (fun x hx => by
    obtain ⟨s, hs, rfl⟩ := List.mem_map.1 hx
    exact hpB s hs)
  rw [List.length_map] at hCl
  have hbd := stmtsX_len bd 2 4000000 (by rw [stmtsB_all, List.all_eq_true]; exact hbB) (by simp only at hc; omega)
  simp only at hc
  have hst : ∀ m, COk Tryd.prog 29 [.c (.sl (cStmts bd)), .c (.str ⟨#[9, 9]⟩)] m (.c (.str (strX (stmtsX bd 2)))) := rstmts_ok _ bd 2 (Nat.le_refl _) (by rw [stmtsB_all, List.all_eq_true]; exact hbB) hc (by omega)
  have hmx : methX ⟨strX tyl, strX nml, ps, bd⟩ = [9] ++ tyl ++ [32] ++ nml ++ [40] ++ commaX (ps.map slotX) ++ [41, 32, 123, 10] ++ stmtsX bd 2 ++ [9, 125, 10] := by simp [methX, strX, brcX, tabX]
  rw [hmx]
  obtain ⟨SX, hSX⟩ : ∃ SX, stmtsX bd 2 = SX := ⟨_, rfl⟩
  rw [hSX] at hst hbd ⊢
  simp only [cMethod]
  refine (ok_pure tab_ok Tryd.func28 (by kernel_rfl) rfl rfl (by rfl) (by rfl) (by rfl) (fun R hkeep => ?_) m)
  repeat (first | refine W.seq ?_ | refine W.block ?_ | refine W.skip ?_ | refine W.exit ?_ | refine W.region tab_ok 0 (by decide) (exec_run (by simp (disch := omega) only [exa, beq_self_eq_true, ByteArray.size, Nat.reduceAdd, Nat.reduceLeDiff, Nat.reduceEqDiff, Nat.reduceMul, Int.reduceToNat, reduceIte, Int.reduceLE, Int.reduceNeg, app_bytes, if_le, List.length_append, List.length_cons, List.length_nil, List.length_map]; rfl)) ?_)
  obtain ⟨A0, hA0⟩ : ∃ A0, A0 = [9] ++ tyl ++ [32] ++ nml ++ [40] := ⟨_, rfl⟩
  have hlA : A0.length ≤ 40 := by rw [hA0]; simp; omega
  refine W.loop (ι := Nat) (fun k => ⟨upd (upd (upd (upd (upd (fun _ => .top) 1 (.ptr 1 0)) 3 (.c (.str (strX (A0 ++ commaX ((ps.map slotX).take k)))))) 15 (.c (.sl (ps.map cSlot)))) 16 (.c (.int .i64 ps.length))) 17 (.c (.int .i64 k)),
    upd Mem.nil 1 (some (.box 62 [.c (.str (strX tyl)), .c (.str (strX nml)), .c (.sl (ps.map cSlot)), .c (.sl (cStmts bd))]))⟩) (fun k => k ≤ ps.length) (fun k => ps.length - k) 0 ?start (Nat.zero_le _) ?round
  case start =>
    rw [hA0]
    refine le_mk ?sle ?mle ?swf ?mwf ?kept (by rfl)
    case kept => exact kept_not hkeep
    case swf => repeat (first | exact swf_top _ | refine swf_upd ?_ (by simp [A.ids, upd_app]))
    case mwf => repeat (first | exact mwf_nil _ | refine mwf_upd ?_ (by simp [A.ids, O.ids, upd_app]))
    case mle => repeat (first | exact mle_nil _ | exact mle_refl _ | refine mle_upd ?_ (by first | rfl | (simp only [upd_app, killM_app, Nat.reduceEqDiff, reduceIte, commaX, List.take_zero, List.append_nil, List.append_assoc, List.cons_append, List.nil_append, List.length_map]; done)))
    case sle => repeat (first | exact sle_top _ | exact sle_refl _ | refine sle_upd ?_ (by first | rfl | (simp only [upd_app, entry_zero, entry_succ, Nat.reduceEqDiff, reduceIte, commaX, List.take_zero, List.append_nil, List.append_assoc, List.cons_append, List.nil_append, List.length_map]; done)))
  case round =>
    intro k hk
    repeat (first | refine W.seq ?_ | refine W.block ?_ | refine W.skip ?_ | refine W.exit ?_ | refine W.region tab_ok 0 (by decide) (exec_run (by simp only [exa, beq_self_eq_true, ByteArray.size, Nat.reduceAdd, Nat.reduceLeDiff, Nat.reduceEqDiff, Nat.reduceMul, Int.reduceToNat, reduceIte, Int.reduceLE, Int.reduceNeg]; rfl)) ?_)
    refine W.cond rfl ?_ ?_
    · intro hlt
      simp only [decide_eq_true_eq, Int.ofNat_lt] at hlt
      obtain ⟨x, hxk⟩ : ∃ x, ps[k]? = some x := ⟨_, List.getElem?_eq_getElem hlt⟩
      have htk := commaF_take slotX hxk
      have hle := commaX_le (ps.map slotX) (k + 1)
      have hln := congrArg List.length htk
      simp only [List.length_append] at hln
      have hat := at_map (f := cSlot) hxk
      obtain ⟨xt, xn⟩ := x
      obtain ⟨xtl, rfl⟩ : ∃ nl, xt = strX nl := ⟨_, strX_of xt⟩
      obtain ⟨xnl, rfl⟩ : ∃ nl, xn = strX nl := ⟨_, strX_of xn⟩
      have hsx : slotX ⟨strX xtl, strX xnl⟩ = xtl ++ [32] ++ xnl := by simp [slotX, strX]
      rw [hsx] at htk hln
      simp only [List.length_append, List.length_cons, List.length_nil] at hln
      obtain ⟨Ck, hC⟩ : ∃ Ck, commaX ((ps.map slotX).take k) = Ck := ⟨_, rfl⟩
      rw [hC] at htk hln ⊢
      simp only [cSlot] at hat
      repeat (first | refine W.seq ?_ | refine W.block ?_ | refine W.skip ?_ | refine W.exit ?_ | refine W.region tab_ok 0 (by decide) (exec_run (by simp only [exa, beq_self_eq_true, ByteArray.size, Nat.reduceAdd, Nat.reduceLeDiff, Nat.reduceEqDiff, Nat.reduceMul, Int.reduceToNat, reduceIte, Int.reduceLE, Int.reduceNeg, hat]; rfl)) ?_)
      refine W.cond rfl ?_ ?_
      · intro hk0
        simp only [decide_eq_true_eq] at hk0
        have hk0 : k ≠ 0 := by omega
        rw [if_neg hk0] at htk hln
        simp only [List.length_cons, List.length_nil] at hln
        repeat (first | refine W.seq ?_ | refine W.block ?_ | refine W.skip ?_ | refine W.exit ?_ | refine W.region tab_ok 0 (by decide) (exec_run (by simp (disch := omega) only [exa, beq_self_eq_true, ByteArray.size, Nat.reduceAdd, Nat.reduceLeDiff, Nat.reduceEqDiff, Nat.reduceMul, Int.reduceToNat, reduceIte, Int.reduceLE, Int.reduceNeg, app_bytes, if_le, List.length_append, List.length_cons, List.length_nil]; rfl)) ?_)
        refine ⟨k + 1, hlt, by omega, ?_⟩
        rw [htk]
        refine le_mk ?sle ?mle ?swf ?mwf ?kept (by rfl)
        case kept => exact kept_not hkeep
        case swf => repeat (first | exact swf_top _ | refine swf_upd ?_ (by simp [A.ids, upd_app]))
        case mwf => repeat (first | exact mwf_nil _ | refine mwf_upd ?_ (by simp [A.ids, O.ids, upd_app]))
        case mle => repeat (first | exact mle_nil _ | exact mle_refl _ | refine mle_upd ?_ (by first | rfl | (simp only [upd_app, killM_app, Nat.reduceEqDiff, reduceIte, List.append_assoc, List.cons_append, List.nil_append, wrap_succ (show k + 1 < 9223372036854775808 by omega)]; done)))
        case sle => repeat (first | exact sle_top _ | exact sle_refl _ | refine sle_upd ?_ (by first | rfl | (simp only [upd_app, entry_zero, entry_succ, Nat.reduceEqDiff, reduceIte, List.append_assoc, List.cons_append, List.nil_append, wrap_succ (show k + 1 < 9223372036854775808 by omega)]; done)))
      · intro hk0
        simp only [decide_eq_false_iff_not] at hk0
        have hk0 : k = 0 := by omega
        rw [if_pos hk0] at htk hln
        simp only [List.length_nil] at hln
        repeat (first | refine W.seq ?_ | refine W.block ?_ | refine W.skip ?_ | refine W.exit ?_ | refine W.region tab_ok 0 (by decide) (exec_run (by simp (disch := omega) only [exa, beq_self_eq_true, ByteArray.size, Nat.reduceAdd, Nat.reduceLeDiff, Nat.reduceEqDiff, Nat.reduceMul, Int.reduceToNat, reduceIte, Int.reduceLE, Int.reduceNeg, app_bytes, if_le, List.length_append, List.length_cons, List.length_nil]; rfl)) ?_)
        refine ⟨k + 1, hlt, by omega, ?_⟩
        rw [htk]
        refine le_mk ?sle ?mle ?swf ?mwf ?kept (by rfl)
        case kept => exact kept_not hkeep
        case swf => repeat (first | exact swf_top _ | refine swf_upd ?_ (by simp [A.ids, upd_app]))
        case mwf => repeat (first | exact mwf_nil _ | refine mwf_upd ?_ (by simp [A.ids, O.ids, upd_app]))
        case mle => repeat (first | exact mle_nil _ | exact mle_refl _ | refine mle_upd ?_ (by first | rfl | (simp only [upd_app, killM_app, Nat.reduceEqDiff, reduceIte, List.append_assoc, List.cons_append, List.nil_append, wrap_succ (show k + 1 < 9223372036854775808 by omega)]; done)))
        case sle => repeat (first | exact sle_top _ | exact sle_refl _ | refine sle_upd ?_ (by first | rfl | (simp only [upd_app, entry_zero, entry_succ, Nat.reduceEqDiff, reduceIte, List.append_assoc, List.cons_append, List.nil_append, wrap_succ (show k + 1 < 9223372036854775808 by omega)]; done)))
    · intro hge
      simp only [decide_eq_false_iff_not, Int.ofNat_lt] at hge
      obtain rfl : k = ps.length := by omega
      rw [List.take_of_length_le (by simp)]
      obtain ⟨Ck, hC⟩ : ∃ Ck, commaX (ps.map slotX) = Ck := ⟨_, rfl⟩
      rw [hC] at hCl ⊢
      (repeat (first | refine W.seq ?_ | refine W.block ?_ | refine W.skip ?_ | refine W.exit ?_))
      refine W.regionK tab_ok 0 (by decide) ?_
      refine runk_split 4 (by simp (disch := omega) only [exa, beq_self_eq_true, ByteArray.size, Nat.reduceAdd, Nat.reduceLeDiff, Nat.reduceEqDiff, Nat.reduceMul, Int.reduceToNat, reduceIte, Int.reduceLE, Int.reduceNeg, app_bytes, if_le, List.length_append, List.length_cons, List.length_nil]; rfl) ?_
      refine runk_call rfl rfl rfl rfl rfl (by simp) (cvs_cons cv_refl (cvs_cons cv_refl cvs_nil)) (hst _) ?_
      refine runk_exec (by simp (disch := omega) only [exa, beq_self_eq_true, ByteArray.size, Nat.reduceAdd, Nat.reduceLeDiff, Nat.reduceEqDiff, Nat.reduceMul, Int.reduceToNat, reduceIte, Int.reduceLE, Int.reduceNeg, app_bytes, if_le, List.length_append, List.length_cons, List.length_nil]; rfl) ?_
      refine W.ret ⟨.inr rfl, by rfl, ?_⟩
      simp only [Tryd.f28, resA, resOne, toT, fin, exa, beq_self_eq_true, ByteArray.size, Nat.reduceAdd, Nat.reduceLeDiff, Nat.reduceEqDiff, Nat.reduceMul, Int.reduceToNat, reduceIte, Int.reduceLE, Int.reduceNeg]
      all_goals (rw [hA0]; try simp [List.append_assoc])
set_option maxHeartbeats 4000000 in
theorem rtext_ok (p : Program) (hc : cntP p ≤ 1048576) (m : Mem) : COk Tryd.prog 11 [.agg (cProg p)] m (.tup [(false, [.str (textP p).1]), (false, [.int .i64 (textP p).2])]) := by
  have hck := refTree_ok p
  have hlen : checkB p = true → (progX p).length ≤ 10000000000000 := fun h => progX_len h hc
  obtain ⟨cs, mn⟩ := p
  simp only [cProg] at hck ⊢
  refine (ok_pure tab_ok Tryd.func11 (by kernel_rfl) rfl rfl (by rfl) (by rfl) (by rfl) (fun R hkeep => ?_) m)
  repeat (first | refine W.seq ?_ | refine W.block ?_ | refine W.skip ?_ | refine W.exit ?_ | refine W.region tab_ok 0 (by decide) (exec_run (by simp only [exa, beq_self_eq_true, ByteArray.size, Nat.reduceAdd, Nat.reduceLeDiff, Nat.reduceEqDiff, Nat.reduceMul, Int.reduceToNat, reduceIte, Int.reduceLE, Int.reduceNeg]; rfl)) ?_)
  (repeat (first | refine W.seq ?_ | refine W.block ?_ | refine W.skip ?_ | refine W.exit ?_))
  refine W.regionK tab_ok 0 (by decide) ?_
  refine runk_split 1 (by simp only [exa, beq_self_eq_true, ByteArray.size, Nat.reduceAdd, Nat.reduceLeDiff, Nat.reduceEqDiff, Nat.reduceMul, Int.reduceToNat, reduceIte, Int.reduceLE, Int.reduceNeg]; rfl) ?_
  refine runk_call rfl rfl rfl rfl rfl (by simp) (cvs_cons cv_refl cvs_nil) (hck _) ?_
  refine runk_exec (by simp only [exa, beq_self_eq_true, ByteArray.size, Nat.reduceAdd, Nat.reduceLeDiff, Nat.reduceEqDiff, Nat.reduceMul, Int.reduceToNat, reduceIte, Int.reduceLE, Int.reduceNeg]; rfl) ?_
  repeat (first | refine W.seq ?_ | refine W.block ?_ | refine W.skip ?_ | refine W.exit ?_ | refine W.region tab_ok 0 (by decide) (exec_run (by simp only [exa, beq_self_eq_true, ByteArray.size, Nat.reduceAdd, Nat.reduceLeDiff, Nat.reduceEqDiff, Nat.reduceMul, Int.reduceToNat, reduceIte, Int.reduceLE, Int.reduceNeg]; rfl)) ?_)
  cases hb : checkB ⟨cs, mn⟩ with
  | false =>
    refine W.cond rfl (fun _ => ?_) (fun h => absurd h (by decide))
    repeat (first | refine W.seq ?_ | refine W.block ?_ | refine W.skip ?_ | refine W.exit ?_ | refine W.region tab_ok 0 (by decide) (exec_run (by simp only [exa, beq_self_eq_true, ByteArray.size, Nat.reduceAdd, Nat.reduceLeDiff, Nat.reduceEqDiff, Nat.reduceMul, Int.reduceToNat, reduceIte, Int.reduceLE, Int.reduceNeg]; rfl)) ?_)
    refine W.ret ⟨.inr rfl, by rfl, ?_⟩
    simp only [Tryd.f11, resA, resOne, toT, fin, exa, beq_self_eq_true, ByteArray.size, Nat.reduceAdd, Nat.reduceLeDiff, Nat.reduceEqDiff, Nat.reduceMul, Int.reduceToNat, reduceIte, Int.reduceLE, Int.reduceNeg]
    simp [textP, hb, treeErr]
  | true =>
    have hlen := hlen hb
    refine W.cond rfl (fun h => absurd h (by decide)) (fun _ => ?_)
    have hbC : ∀ c ∈ cs, classB c = true := by
      unfold checkB at hb
      simp only [Bool.and_eq_true, List.all_eq_true] at hb
      exact hb.2
    have hbM : ∀ s ∈ mn, stmtB s = true := by
      unfold checkB at hb
      simp only [Bool.and_eq_true, List.all_eq_true] at hb
      exact hb.1
    have hcnt : (cs.map cntC).sum + cntSs mn ≤ 1048576 := hc
    have hcl := cntC_len cs
    have hpX : progX ⟨cs, mn⟩ = cs.flatMap classX ++ ([109, 97, 105, 110, 32, 123, 10] ++ stmtsX mn 1 ++ [125, 10]) := by simp [progX, brcX, tabX]
    have hst : ∀ m, COk Tryd.prog 29 [.c (.sl (cStmts mn)), .c (.str ⟨#[9]⟩)] m (.c (.str (strX (stmtsX mn 1)))) := rstmts_ok _ mn 1 (Nat.le_refl _) (by rw [stmtsB_all, List.all_eq_true]; exact hbM) (by omega) (by
      rw [hpX] at hlen
      simp only [List.length_append, List.length_cons, List.length_nil] at hlen
      omega)
    have hpl : (cs.flatMap classX).length + (7 + (stmtsX mn 1).length + 2) ≤ 10000000000000 := by
      rw [hpX] at hlen
      simp only [List.length_append, List.length_cons, List.length_nil] at hlen
      omega
    repeat (first | refine W.seq ?_ | refine W.block ?_ | refine W.skip ?_ | refine W.exit ?_ | refine W.region tab_ok 0 (by decide) (exec_run (by simp only [exa, beq_self_eq_true, ByteArray.size, Nat.reduceAdd, Nat.reduceLeDiff, Nat.reduceEqDiff, Nat.reduceMul, Int.reduceToNat, reduceIte, Int.reduceLE, Int.reduceNeg, List.length_map]; rfl)) ?_)
    refine W.loop (ι := Nat) (fun k => ⟨upd (upd (upd (upd (upd (fun _ => .top) 1 (.ptr 1 0)) 5 (.c (.str (strX ((cs.take k).flatMap classX))))) 18 (.c (.sl (cs.map cClass)))) 19 (.c (.int .i64 cs.length))) 20 (.c (.int .i64 k)),
      upd Mem.nil 1 (some (.box 33 [.c (.sl (cs.map cClass)), .c (.sl (cStmts mn))]))⟩) (fun k => k ≤ cs.length) (fun k => cs.length - k) 0 ?start (Nat.zero_le _) ?round
    case start =>
      refine le_mk ?sle ?mle ?swf ?mwf ?kept (by rfl)
      case kept => exact kept_not hkeep
      case swf => repeat (first | exact swf_top _ | refine swf_upd ?_ (by simp [A.ids, upd_app]))
      case mwf => repeat (first | exact mwf_nil _ | refine mwf_upd ?_ (by simp [A.ids, O.ids, upd_app]))
      case mle => repeat (first | exact mle_nil _ | exact mle_refl _ | refine mle_upd ?_ (by first | rfl | (simp only [upd_app, killM_app, Nat.reduceEqDiff, reduceIte, List.take_zero, List.flatMap_nil]; done)))
      case sle => repeat (first | exact sle_top _ | exact sle_refl _ | refine sle_upd ?_ (by first | rfl | (simp only [upd_app, entry_zero, entry_succ, Nat.reduceEqDiff, reduceIte, List.take_zero, List.flatMap_nil]; done)))
    case round =>
      intro k hk
      repeat (first | refine W.seq ?_ | refine W.block ?_ | refine W.skip ?_ | refine W.exit ?_ | refine W.region tab_ok 0 (by decide) (exec_run (by simp only [exa, beq_self_eq_true, ByteArray.size, Nat.reduceAdd, Nat.reduceLeDiff, Nat.reduceEqDiff, Nat.reduceMul, Int.reduceToNat, reduceIte, Int.reduceLE, Int.reduceNeg]; rfl)) ?_)
      refine W.cond rfl ?_ ?_
      · intro hlt
        simp only [decide_eq_true_eq, Int.ofNat_lt] at hlt
        obtain ⟨c, hxk⟩ : ∃ c, cs[k]? = some c := ⟨_, List.getElem?_eq_getElem hlt⟩
        have htk := flatX_take classX hxk
        have hle := flatX_le classX cs (k + 1)
        have hln := congrArg List.length htk
        simp only [List.length_append] at hln
        have hat := at_map (f := cClass) hxk
        have hcm := List.mem_of_getElem? hxk
        have hcb := hbC c hcm
        have hcc := sumX_mem cntC cs c hcm
        obtain ⟨cnm, csu, cfl, cme⟩ := c
        obtain ⟨cnl, rfl⟩ : ∃ nl, cnm = strX nl := ⟨_, strX_of cnm⟩
        obtain ⟨sul, rfl⟩ : ∃ nl, csu = strX nl := ⟨_, strX_of csu⟩
        simp only [cClass] at hat
        obtain ⟨OX, hO⟩ : ∃ OX, (cs.take k).flatMap classX = OX := ⟨_, rfl⟩
        obtain ⟨su, hsu⟩ : ∃ su, (if sul.isEmpty then [] else [32, 101, 120, 116, 101, 110, 100, 115, 32] ++ sul) = su := ⟨_, rfl⟩
        have hcx : classX ⟨strX cnl, strX sul, cfl, cme⟩ = [99, 108, 97, 115, 115, 32] ++ cnl ++ su ++ [32, 123, 10] ++ cfl.flatMap fieldX ++ cme.flatMap methX ++ [125, 10] := by rw [← hsu]; rfl
        rw [hcx] at hln htk
        obtain ⟨FX, hFX⟩ : ∃ FX, cfl.flatMap fieldX = FX := ⟨_, rfl⟩
        obtain ⟨MX, hMX⟩ : ∃ MX, cme.flatMap methX = MX := ⟨_, rfl⟩
        rw [hFX, hMX] at hln htk
        rw [hO] at hln htk ⊢
        simp only [List.length_append, List.length_cons, List.length_nil] at hln
        unfold classB classTop at hcb
        simp only [Bool.and_eq_true, List.all_eq_true] at hcb
        obtain ⟨⟨-, hfb⟩, hmb⟩ := hcb
        have hfl := sumX_one cfl
        have hcml := cntM_len cme
        have hcc2 : 1 + cfl.length + (cme.map cntM).sum ≤ 1048576 := Nat.le_trans hcc (by omega)
        have hsul : (strX sul).toList = sul := by rw [toListX]
        obtain ⟨B1, hB1⟩ : ∃ B1, OX ++ 99 :: 108 :: 97 :: 115 :: 115 :: 32 :: cnl = B1 := ⟨_, rfl⟩
        have hl1 : B1.length = OX.length + 6 + cnl.length := by rw [← hB1]; simp; omega
        (repeat (first | refine W.seq ?_ | refine W.block ?_ | refine W.skip ?_ | refine W.exit ?_))
        refine W.regionK tab_ok 0 (by decide) ?_
        refine runk_exec (by simp (disch := omega) only [exa, beq_self_eq_true, ByteArray.size, Nat.reduceAdd, Nat.reduceLeDiff, Nat.reduceEqDiff, Nat.reduceMul, Int.reduceToNat, reduceIte, Int.reduceLE, Int.reduceNeg, app_bytes, if_le, List.length_append, List.length_cons, List.length_nil, hat]; rfl) ?_
        (repeat (first | refine W.seq ?_ | refine W.block ?_ | refine W.skip ?_ | refine W.exit ?_))
        refine W.regionK tab_ok 0 (by decide) ?_
        refine runk_exec (by simp (disch := omega) only [exa, beq_self_eq_true, ByteArray.size, Nat.reduceAdd, Nat.reduceLeDiff, Nat.reduceEqDiff, Nat.reduceMul, Int.reduceToNat, reduceIte, Int.reduceLE, Int.reduceNeg, app_bytes, if_le, List.length_append, List.length_cons, List.length_nil]; rfl) ?_
        rw [hB1]
        refine W.seqJoin (ι := Unit) (fun _ => ⟨upd (upd (upd (upd (upd (upd (fun _ => .top) 1 (.ptr 1 0)) 5 (.c (.str (strX (B1 ++ su))))) 7 (.ptr 7 0)) 18 (.c (.sl (cs.map cClass)))) 19 (.c (.int .i64 cs.length))) 20 (.c (.int .i64 k)),
          upd (upd Mem.nil 1 (some (.box 33 [.c (.sl (cs.map cClass)), .c (.sl (cStmts mn))]))) 7 (some (.box 57 [.c (.str (strX cnl)), .c (.str (strX sul)), .c (.sl (cfl.map cSlot)), .c (.sl (cme.map cMethod))]))⟩) (fun _ => True) ?first ?rest
        case first =>
          repeat (first | refine W.seq ?_ | refine W.block ?_ | refine W.skip ?_ | refine W.exit ?_ | refine W.region tab_ok 0 (by decide) (exec_run (by simp only [exa, beq_self_eq_true, ByteArray.size, Nat.reduceAdd, Nat.reduceLeDiff, Nat.reduceEqDiff, Nat.reduceMul, Int.reduceToNat, reduceIte, Int.reduceLE, Int.reduceNeg]; rfl)) ?_)
          cases hce : sul.isEmpty with
          | true =>
            obtain rfl : sul = [] := List.isEmpty_iff.1 hce
            have hsu0 : su = [] := by rw [← hsu]; rfl
            subst hsu0
            rw [hsul]
            refine W.cond rfl (fun h => absurd h (by decide)) (fun _ => W.skip ?_)
            refine ⟨rfl, fun c K' hk => W.weaken ?le (hk () trivial)⟩
            case le =>
              refine le_mk ?sle ?mle ?swf ?mwf ?kept (by rfl)
              case kept => exact kept_not hkeep
              case swf => repeat (first | exact swf_top _ | refine swf_upd ?_ (by simp [A.ids, upd_app]))
              case mwf => repeat (first | exact mwf_nil _ | refine mwf_upd ?_ (by simp [A.ids, O.ids, upd_app]))
              case mle => repeat (first | exact mle_nil _ | exact mle_refl _ | refine mle_upd ?_ (by first | rfl | (simp only [upd_app, killM_app, Nat.reduceEqDiff, reduceIte, List.append_nil]; done)))
              case sle => repeat (first | exact sle_top _ | exact sle_refl _ | refine sle_upd ?_ (by first | rfl | (simp only [upd_app, entry_zero, entry_succ, Nat.reduceEqDiff, reduceIte, List.append_nil]; done)))
          | false =>
            have hsu1 : su = [32, 101, 120, 116, 101, 110, 100, 115, 32] ++ sul := by rw [← hsu, hce]; rfl
            have hcl0 : (!((strX sul).toList == [])) = true := by
              rw [hsul]
              cases sul with
              | nil => cases hce
              | cons a b => rfl
            rw [hsu1] at hln
            simp only [List.length_append, List.length_cons, List.length_nil] at hln
            refine W.cond rfl (fun _ => ?_) (fun h => absurd (hcl0.symm.trans h) (by decide))
            refine W.regionK tab_ok 0 (by decide) ?_
            refine runk_exec (by simp (disch := omega) only [exa, beq_self_eq_true, ByteArray.size, Nat.reduceAdd, Nat.reduceLeDiff, Nat.reduceEqDiff, Nat.reduceMul, Int.reduceToNat, reduceIte, Int.reduceLE, Int.reduceNeg, app_bytes, if_le, List.length_append, List.length_cons, List.length_nil]; rfl) ?_
            refine ⟨by simp, fun c K' hk => W.weaken ?le (hk () trivial)⟩
            case le =>
              rw [hsu1]
              refine le_mk ?sle ?mle ?swf ?mwf ?kept (by rfl)
              case kept => exact kept_not hkeep
              case swf => repeat (first | exact swf_top _ | refine swf_upd ?_ (by simp [A.ids, upd_app]))
              case mwf => repeat (first | exact mwf_nil _ | refine mwf_upd ?_ (by simp [A.ids, O.ids, upd_app]))
              case mle => repeat (first | exact mle_nil _ | exact mle_refl _ | refine mle_upd ?_ (by first | rfl | (simp only [upd_app, killM_app, Nat.reduceEqDiff, reduceIte, List.append_assoc, List.cons_append, List.nil_append]; done)))
              case sle => repeat (first | exact sle_top _ | exact sle_refl _ | refine sle_upd ?_ (by first | rfl | (simp only [upd_app, entry_zero, entry_succ, Nat.reduceEqDiff, reduceIte, List.append_assoc, List.cons_append, List.nil_append]; done)))
        case rest =>
          rintro - -
          obtain ⟨B2, hB2⟩ : ∃ B2, B1 ++ su = B2 := ⟨_, rfl⟩
          have hl2 : B2.length = B1.length + su.length := by rw [← hB2, List.length_append]
          rw [hB2]
          repeat (first | refine W.seq ?_ | refine W.block ?_ | refine W.skip ?_ | refine W.exit ?_ | refine W.region tab_ok 0 (by decide) (exec_run (by simp (disch := omega) only [exa, beq_self_eq_true, ByteArray.size, Nat.reduceAdd, Nat.reduceLeDiff, Nat.reduceEqDiff, Nat.reduceMul, Int.reduceToNat, reduceIte, Int.reduceLE, Int.reduceNeg, app_bytes, if_le, List.length_append, List.length_cons, List.length_nil, List.length_map]; rfl)) ?_)
          obtain ⟨B3, hB3⟩ : ∃ B3, B2 ++ [32, 123, 10] = B3 := ⟨_, rfl⟩
          have hl3 : B3.length = B2.length + 3 := by rw [← hB3]; simp
          rw [hB3]
          refine W.loop (ι := Nat) (fun k2 => ⟨upd (upd (upd (upd (upd (upd (upd (upd (upd (fun _ => .top) 1 (.ptr 1 0)) 5 (.c (.str (strX (B3 ++ (cfl.take k2).flatMap fieldX))))) 7 (.ptr 7 0)) 18 (.c (.sl (cs.map cClass)))) 19 (.c (.int .i64 cs.length))) 20 (.c (.int .i64 k))) 40 (.c (.sl (cfl.map cSlot)))) 41 (.c (.int .i64 cfl.length))) 42 (.c (.int .i64 k2)),
            upd (upd Mem.nil 1 (some (.box 33 [.c (.sl (cs.map cClass)), .c (.sl (cStmts mn))]))) 7 (some (.box 57 [.c (.str (strX cnl)), .c (.str (strX sul)), .c (.sl (cfl.map cSlot)), .c (.sl (cme.map cMethod))]))⟩) (fun k2 => k2 ≤ cfl.length) (fun k2 => cfl.length - k2) 0 ?start2 (Nat.zero_le _) ?round2
          case start2 =>
            refine le_mk ?sle ?mle ?swf ?mwf ?kept (by rfl)
            case kept => exact kept_not hkeep
            case swf => repeat (first | exact swf_top _ | refine swf_upd ?_ (by simp [A.ids, upd_app]))
            case mwf => repeat (first | exact mwf_nil _ | refine mwf_upd ?_ (by simp [A.ids, O.ids, upd_app]))
            case mle => repeat (first | exact mle_nil _ | exact mle_refl _ | refine mle_upd ?_ (by first | rfl | (simp only [upd_app, killM_app, Nat.reduceEqDiff, reduceIte, List.take_zero, List.flatMap_nil, List.append_nil]; done)))
            case sle => repeat (first | exact sle_top _ | exact sle_refl _ | refine sle_upd ?_ (by first | rfl | (simp only [upd_app, entry_zero, entry_succ, Nat.reduceEqDiff, reduceIte, List.take_zero, List.flatMap_nil, List.append_nil]; done)))
          case round2 =>
            intro k2 hk2
            repeat (first | refine W.seq ?_ | refine W.block ?_ | refine W.skip ?_ | refine W.exit ?_ | refine W.region tab_ok 0 (by decide) (exec_run (by simp only [exa, beq_self_eq_true, ByteArray.size, Nat.reduceAdd, Nat.reduceLeDiff, Nat.reduceEqDiff, Nat.reduceMul, Int.reduceToNat, reduceIte, Int.reduceLE, Int.reduceNeg]; rfl)) ?_)
            refine W.cond rfl ?_ ?_
            · intro hlt2
              simp only [decide_eq_true_eq, Int.ofNat_lt] at hlt2
              obtain ⟨f, hxk2⟩ : ∃ f, cfl[k2]? = some f := ⟨_, List.getElem?_eq_getElem hlt2⟩
              have htk2 := flatX_take fieldX hxk2
              have hle2 := flatX_le fieldX cfl (k2 + 1)
              rw [hFX] at hle2
              have hln2 := congrArg List.length htk2
              simp only [List.length_append] at hln2
              have hat2 := at_map (f := cSlot) hxk2
              obtain ⟨fty, fnm⟩ := f
              obtain ⟨tyl, rfl⟩ : ∃ nl, fty = strX nl := ⟨_, strX_of fty⟩
              obtain ⟨nml, rfl⟩ : ∃ nl, fnm = strX nl := ⟨_, strX_of fnm⟩
              simp only [cSlot] at hat2
              have hfx : fieldX ⟨strX tyl, strX nml⟩ = [9] ++ tyl ++ [32] ++ nml ++ [59, 10] := by simp [fieldX, slotX, strX]
              rw [hfx] at htk2 hln2
              simp only [List.length_append, List.length_cons, List.length_nil] at hln2
              obtain ⟨FK, hFK⟩ : ∃ FK, (cfl.take k2).flatMap fieldX = FK := ⟨_, rfl⟩
              rw [hFK] at htk2 hln2 ⊢
              repeat (first | refine W.seq ?_ | refine W.block ?_ | refine W.skip ?_ | refine W.exit ?_ | refine W.region tab_ok 0 (by decide) (exec_run (by simp (disch := omega) only [exa, beq_self_eq_true, ByteArray.size, Nat.reduceAdd, Nat.reduceLeDiff, Nat.reduceEqDiff, Nat.reduceMul, Int.reduceToNat, reduceIte, Int.reduceLE, Int.reduceNeg, app_bytes, if_le, List.length_append, List.length_cons, List.length_nil, hat2]; rfl)) ?_)
              refine ⟨k2 + 1, hlt2, by omega, ?_⟩
              rw [htk2]
              refine le_mk ?sle ?mle ?swf ?mwf ?kept (by rfl)
              case kept => exact kept_not hkeep
              case swf => repeat (first | exact swf_top _ | refine swf_upd ?_ (by simp [A.ids, upd_app]))
              case mwf => repeat (first | exact mwf_nil _ | refine mwf_upd ?_ (by simp [A.ids, O.ids, upd_app]))
              case mle => repeat (first | exact mle_nil _ | exact mle_refl _ | refine mle_upd ?_ (by first | rfl | (simp only [upd_app, killM_app, Nat.reduceEqDiff, reduceIte, List.append_assoc, List.cons_append, List.nil_append, wrap_succ (show k2 + 1 < 9223372036854775808 by omega)]; done)))
              case sle => repeat (first | exact sle_top _ | exact sle_refl _ | refine sle_upd ?_ (by first | rfl | (simp only [upd_app, entry_zero, entry_succ, Nat.reduceEqDiff, reduceIte, List.append_assoc, List.cons_append, List.nil_append, wrap_succ (show k2 + 1 < 9223372036854775808 by omega)]; done)))
            · intro hge2
              simp only [decide_eq_false_iff_not, Int.ofNat_lt] at hge2
              obtain rfl : k2 = cfl.length := by omega
              rw [List.take_length, hFX]
              repeat (first | refine W.seq ?_ | refine W.block ?_ | refine W.skip ?_ | refine W.exit ?_ | refine W.region tab_ok 0 (by decide) (exec_run (by simp only [exa, beq_self_eq_true, ByteArray.size, Nat.reduceAdd, Nat.reduceLeDiff, Nat.reduceEqDiff, Nat.reduceMul, Int.reduceToNat, reduceIte, Int.reduceLE, Int.reduceNeg, List.length_map]; rfl)) ?_)
              refine W.loop (ι := Nat) (fun k3 => ⟨upd (upd (upd (upd (upd (upd (upd (upd (upd (fun _ => .top) 1 (.ptr 1 0)) 5 (.c (.str (strX (B3 ++ FX ++ (cme.take k3).flatMap methX))))) 7 (.ptr 7 0)) 18 (.c (.sl (cs.map cClass)))) 19 (.c (.int .i64 cs.length))) 20 (.c (.int .i64 k))) 58 (.c (.sl (cme.map cMethod)))) 59 (.c (.int .i64 cme.length))) 60 (.c (.int .i64 k3)),
                upd (upd Mem.nil 1 (some (.box 33 [.c (.sl (cs.map cClass)), .c (.sl (cStmts mn))]))) 7 (some (.box 57 [.c (.str (strX cnl)), .c (.str (strX sul)), .c (.sl (cfl.map cSlot)), .c (.sl (cme.map cMethod))]))⟩) (fun k3 => k3 ≤ cme.length) (fun k3 => cme.length - k3) 0 ?start3 (Nat.zero_le _) ?round3
              case start3 =>
                refine le_mk ?sle ?mle ?swf ?mwf ?kept (by rfl)
                case kept => exact kept_not hkeep
                case swf => repeat (first | exact swf_top _ | refine swf_upd ?_ (by simp [A.ids, upd_app]))
                case mwf => repeat (first | exact mwf_nil _ | refine mwf_upd ?_ (by simp [A.ids, O.ids, upd_app]))
                case mle => repeat (first | exact mle_nil _ | exact mle_refl _ | refine mle_upd ?_ (by first | rfl | (simp only [upd_app, killM_app, Nat.reduceEqDiff, reduceIte, List.take_zero, List.flatMap_nil, List.append_nil]; done)))
                case sle => repeat (first | exact sle_top _ | exact sle_refl _ | refine sle_upd ?_ (by first | rfl | (simp only [upd_app, entry_zero, entry_succ, Nat.reduceEqDiff, reduceIte, List.take_zero, List.flatMap_nil, List.append_nil]; done)))
              case round3 =>
                intro k3 hk3
                repeat (first | refine W.seq ?_ | refine W.block ?_ | refine W.skip ?_ | refine W.exit ?_ | refine W.region tab_ok 0 (by decide) (exec_run (by simp only [exa, beq_self_eq_true, ByteArray.size, Nat.reduceAdd, Nat.reduceLeDiff, Nat.reduceEqDiff, Nat.reduceMul, Int.reduceToNat, reduceIte, Int.reduceLE, Int.reduceNeg]; rfl)) ?_)
                refine W.cond rfl ?_ ?_
                · intro hlt3
                  simp only [decide_eq_true_eq, Int.ofNat_lt] at hlt3
                  obtain ⟨me, hxk3⟩ : ∃ me, cme[k3]? = some me := ⟨_, List.getElem?_eq_getElem hlt3⟩
                  have htk3 := flatX_take methX hxk3
                  have hle3 := flatX_le methX cme (k3 + 1)
                  rw [hMX] at hle3
                  have hln3 := congrArg List.length htk3
                  simp only [List.length_append] at hln3
                  have hat3 := at_map (f := cMethod) hxk3
                  have hmm := List.mem_of_getElem? hxk3
                  have hmc := sumX_mem cntM cme me hmm
                  have hmo := rmeth_ok me (hmb me hmm) (by have : cntSs me.body ≤ cntM me := (by unfold cntM; omega); omega)
                  obtain ⟨MT, hMT⟩ : ∃ MT, methX me = MT := ⟨_, rfl⟩
                  obtain ⟨MK, hMK⟩ : ∃ MK, (cme.take k3).flatMap methX = MK := ⟨_, rfl⟩
                  rw [hMT] at htk3 hln3 hmo
                  rw [hMK] at htk3 hln3 ⊢
                  obtain ⟨mty, mnm, ps, bd⟩ := me
                  simp only [cMethod] at hat3 hmo
                  repeat (first | refine W.seq ?_ | refine W.block ?_ | refine W.skip ?_ | refine W.exit ?_ | refine W.region tab_ok 0 (by decide) (exec_run (by simp only [exa, beq_self_eq_true, ByteArray.size, Nat.reduceAdd, Nat.reduceLeDiff, Nat.reduceEqDiff, Nat.reduceMul, Int.reduceToNat, reduceIte, Int.reduceLE, Int.reduceNeg, hat3]; rfl)) ?_)
                  (repeat (first | refine W.seq ?_ | refine W.block ?_ | refine W.skip ?_ | refine W.exit ?_))
                  refine W.regionK tab_ok 0 (by decide) ?_
                  refine runk_split 2 (by simp (disch := omega) only [exa, beq_self_eq_true, ByteArray.size, Nat.reduceAdd, Nat.reduceLeDiff, Nat.reduceEqDiff, Nat.reduceMul, Int.reduceToNat, reduceIte, Int.reduceLE, Int.reduceNeg, app_bytes, if_le, List.length_append, List.length_cons, List.length_nil]; rfl) ?_
                  refine runk_call rfl rfl rfl rfl rfl (by simp) (cvs_cons cv_refl cvs_nil) (hmo _) ?_
                  refine runk_exec (by simp (disch := omega) only [exa, beq_self_eq_true, ByteArray.size, Nat.reduceAdd, Nat.reduceLeDiff, Nat.reduceEqDiff, Nat.reduceMul, Int.reduceToNat, reduceIte, Int.reduceLE, Int.reduceNeg, app_bytes, if_le, List.length_append, List.length_cons, List.length_nil]; rfl) ?_
                  repeat (first | refine W.seq ?_ | refine W.block ?_ | refine W.skip ?_ | refine W.exit ?_ | refine W.region tab_ok 0 (by decide) (exec_run (by simp only [exa, beq_self_eq_true, ByteArray.size, Nat.reduceAdd, Nat.reduceLeDiff, Nat.reduceEqDiff, Nat.reduceMul, Int.reduceToNat, reduceIte, Int.reduceLE, Int.reduceNeg]; rfl)) ?_)
                  refine ⟨k3 + 1, hlt3, by omega, ?_⟩
                  rw [htk3]
                  refine le_mk ?sle ?mle ?swf ?mwf ?kept (by rfl)
                  case kept => exact kept_not hkeep
                  case swf => repeat (first | exact swf_top _ | refine swf_upd ?_ (by simp [A.ids, upd_app]))
                  case mwf => repeat (first | exact mwf_nil _ | refine mwf_upd ?_ (by simp [A.ids, O.ids, upd_app]))
                  case mle => repeat (first | exact mle_nil _ | exact mle_refl _ | refine mle_upd ?_ (by first | rfl | (simp only [upd_app, killM_app, Nat.reduceEqDiff, reduceIte, List.append_assoc, List.cons_append, List.nil_append, wrap_succ (show k3 + 1 < 9223372036854775808 by omega)]; done)))
                  case sle => repeat (first | exact sle_top _ | exact sle_refl _ | refine sle_upd ?_ (by first | rfl | (simp only [upd_app, entry_zero, entry_succ, Nat.reduceEqDiff, reduceIte, List.append_assoc, List.cons_append, List.nil_append, wrap_succ (show k3 + 1 < 9223372036854775808 by omega)]; done)))
                · intro hge3
                  simp only [decide_eq_false_iff_not, Int.ofNat_lt] at hge3
                  obtain rfl : k3 = cme.length := by omega
                  rw [List.take_length, hMX]
                  repeat (first | refine W.seq ?_ | refine W.block ?_ | refine W.skip ?_ | refine W.exit ?_ | refine W.region tab_ok 0 (by decide) (exec_run (by simp (disch := omega) only [exa, beq_self_eq_true, ByteArray.size, Nat.reduceAdd, Nat.reduceLeDiff, Nat.reduceEqDiff, Nat.reduceMul, Int.reduceToNat, reduceIte, Int.reduceLE, Int.reduceNeg, app_bytes, if_le, List.length_append, List.length_cons, List.length_nil]; rfl)) ?_)
                  refine ⟨k + 1, hlt, by omega, ?_⟩
                  rw [htk, ← hB3, ← hB2, ← hB1]
                  refine le_mk ?sle ?mle ?swf ?mwf ?kept (by rfl)
                  case kept => exact kept_not hkeep
                  case swf => repeat (first | exact swf_top _ | refine swf_upd ?_ (by simp [A.ids, upd_app]))
                  case mwf => repeat (first | exact mwf_nil _ | refine mwf_upd ?_ (by simp [A.ids, O.ids, upd_app]))
                  case mle => repeat (first | exact mle_nil _ | exact mle_refl _ | refine mle_upd ?_ (by first | rfl | (simp only [upd_app, killM_app, Nat.reduceEqDiff, reduceIte, List.append_assoc, List.cons_append, List.nil_append, wrap_succ (show k + 1 < 9223372036854775808 by omega)]; done)))
                  case sle => repeat (first | exact sle_top _ | exact sle_refl _ | refine sle_upd ?_ (by first | rfl | (simp only [upd_app, entry_zero, entry_succ, Nat.reduceEqDiff, reduceIte, List.append_assoc, List.cons_append, List.nil_append, wrap_succ (show k + 1 < 9223372036854775808 by omega)]; done)))
      · intro hge
        simp only [decide_eq_false_iff_not, Int.ofNat_lt] at hge
        obtain rfl : k = cs.length := by omega
        rw [List.take_length]
        obtain ⟨OX, hO⟩ : ∃ OX, cs.flatMap classX = OX := ⟨_, rfl⟩
        obtain ⟨SX, hSX⟩ : ∃ SX, stmtsX mn 1 = SX := ⟨_, rfl⟩
        rw [hO] at hpl hpX ⊢
        rw [hSX] at hpl hpX hst
        have hpX2 : OX ++ 109 :: 97 :: 105 :: 110 :: 32 :: 123 :: 10 :: (SX ++ [125, 10]) = progX ⟨cs, mn⟩ := by rw [hpX]; simp
        (repeat (first | refine W.seq ?_ | refine W.block ?_ | refine W.skip ?_ | refine W.exit ?_))
        refine W.regionK tab_ok 0 (by decide) ?_
        refine runk_split 3 (by simp (disch := omega) only [exa, beq_self_eq_true, ByteArray.size, Nat.reduceAdd, Nat.reduceLeDiff, Nat.reduceEqDiff, Nat.reduceMul, Int.reduceToNat, reduceIte, Int.reduceLE, Int.reduceNeg, app_bytes, if_le, List.length_append, List.length_cons, List.length_nil]; rfl) ?_
        refine runk_call rfl rfl rfl rfl rfl (by simp) (cvs_cons cv_refl (cvs_cons cv_refl cvs_nil)) (hst _) ?_
        refine runk_exec (by simp (disch := omega) only [exa, beq_self_eq_true, ByteArray.size, Nat.reduceAdd, Nat.reduceLeDiff, Nat.reduceEqDiff, Nat.reduceMul, Int.reduceToNat, reduceIte, Int.reduceLE, Int.reduceNeg, app_bytes, if_le, List.length_append, List.length_cons, List.length_nil]; rfl) ?_
        rw [hpX2]
        repeat (first | refine W.seq ?_ | refine W.block ?_ | refine W.skip ?_ | refine W.exit ?_ | refine W.region tab_ok 0 (by decide) (exec_run (by simp only [exa, beq_self_eq_true, ByteArray.size, Nat.reduceAdd, Nat.reduceLeDiff, Nat.reduceEqDiff, Nat.reduceMul, Int.reduceToNat, reduceIte, Int.reduceLE, Int.reduceNeg]; rfl)) ?_)
        by_cases hl : 8192 < (progX ⟨cs, mn⟩).length
        · refine W.cond rfl (fun _ => ?_) (fun h => absurd h (by simp; omega))
          repeat (first | refine W.seq ?_ | refine W.block ?_ | refine W.skip ?_ | refine W.exit ?_ | refine W.region tab_ok 0 (by decide) (exec_run (by simp only [exa, beq_self_eq_true, ByteArray.size, Nat.reduceAdd, Nat.reduceLeDiff, Nat.reduceEqDiff, Nat.reduceMul, Int.reduceToNat, reduceIte, Int.reduceLE, Int.reduceNeg]; rfl)) ?_)
          refine W.ret ⟨.inr rfl, by rfl, ?_⟩
          simp only [Tryd.f11, resA, resOne, toT, fin, exa, beq_self_eq_true, ByteArray.size, Nat.reduceAdd, Nat.reduceLeDiff, Nat.reduceEqDiff, Nat.reduceMul, Int.reduceToNat, reduceIte, Int.reduceLE, Int.reduceNeg]
          simp [textP, hb, hl]
        · refine W.cond rfl (fun h => absurd h (by simp; omega)) (fun _ => ?_)
          repeat (first | refine W.seq ?_ | refine W.block ?_ | refine W.skip ?_ | refine W.exit ?_ | refine W.region tab_ok 0 (by decide) (exec_run (by simp only [exa, beq_self_eq_true, ByteArray.size, Nat.reduceAdd, Nat.reduceLeDiff, Nat.reduceEqDiff, Nat.reduceMul, Int.reduceToNat, reduceIte, Int.reduceLE, Int.reduceNeg]; rfl)) ?_)
          refine W.ret ⟨.inr rfl, by rfl, ?_⟩
          simp only [Tryd.f11, resA, resOne, toT, fin, exa, beq_self_eq_true, ByteArray.size, Nat.reduceAdd, Nat.reduceLeDiff, Nat.reduceEqDiff, Nat.reduceMul, Int.reduceToNat, reduceIte, Int.reduceLE, Int.reduceNeg]
          simp [textP, hb, hl]
end V
end Go.Proofs.YtbmbmcdaabhgnaaDoor
end
section
set_option linter.unusedVariables false
set_option linter.unusedSimpArgs false
namespace Go.Proofs.YtbmbmcdaabhgnaaDoor
namespace V
open Go.RowKit
theorem main_text : textP ⟨[], []⟩ = (⟨#[109, 97, 105, 110, 32, 123, 10, 125, 10]⟩, 0) := by decide +kernel
theorem main3_ok (m : Mem) : COk Tryd.prog 12 [] m (.c (.bool true)) := by
  have h1 := textP_ok ⟨[], []⟩ (by decide)
  rw [main_text] at h1
  simp only [cProg, cStmts, List.map_nil] at h1
  refine (ok_pure tab_ok Tryd.func12 (by kernel_rfl) rfl rfl (by rfl) (by rfl) (by rfl) (fun R hkeep => ?_) m)
  repeat (first | refine W.seq ?_ | refine W.block ?_ | refine W.skip ?_ | refine W.exit ?_ | refine W.region tab_ok 0 (by decide) (exec_run (by simp only [exa, beq_self_eq_true, ByteArray.size, Nat.reduceAdd, Nat.reduceLeDiff, Nat.reduceEqDiff, Nat.reduceMul, Int.reduceToNat, reduceIte, Int.reduceLE, Int.reduceNeg]; rfl)) ?_)
  (repeat (first | refine W.seq ?_ | refine W.block ?_ | refine W.skip ?_))
  refine W.regionK tab_ok 0 (by decide) ?_
  refine runk_split 1 (by simp only [exa, beq_self_eq_true, ByteArray.size, Nat.reduceAdd, Nat.reduceLeDiff, Nat.reduceEqDiff, Nat.reduceMul, Int.reduceToNat, reduceIte, Int.reduceLE, Int.reduceNeg]; rfl) ?_
  refine runk_call rfl rfl rfl rfl rfl (by simp) (cvs_cons cv_refl cvs_nil) (h1 _) ?_
  refine runk_exec (by simp only [exa, beq_self_eq_true, ByteArray.size, Nat.reduceAdd, Nat.reduceLeDiff, Nat.reduceEqDiff, Nat.reduceMul, Int.reduceToNat, reduceIte, Int.reduceLE, Int.reduceNeg]; rfl) ?_
  repeat (first | refine W.seq ?_ | refine W.block ?_ | refine W.skip ?_ | refine W.exit ?_ | refine W.region tab_ok 0 (by decide) (exec_run (by simp only [exa, beq_self_eq_true, ByteArray.size, Nat.reduceAdd, Nat.reduceLeDiff, Nat.reduceEqDiff, Nat.reduceMul, Int.reduceToNat, reduceIte, Int.reduceLE, Int.reduceNeg]; rfl)) ?_)
  refine W.ret ⟨.inr rfl, by rfl, ?_⟩
  simp only [Tryd.f12, resA, resOne, toT, fin, exa, beq_self_eq_true, ByteArray.size, Nat.reduceAdd, Nat.reduceLeDiff, Nat.reduceEqDiff, Nat.reduceMul, Int.reduceToNat, reduceIte, Int.reduceLE, Int.reduceNeg]
theorem lawTexts_ok (p : Program) (hc : cntP p ≤ 1048576) (m : Mem) : COk Tryd.prog 4 [.agg (cProg p)] m (.c (.bool true)) := by
  have h1 := textP_ok p hc
  have h2 := rtext_ok p hc
  obtain ⟨u, hu⟩ : ∃ u, textP p = u := ⟨_, rfl⟩
  rw [hu] at h1 h2
  obtain ⟨cs, mn⟩ := p
  simp only [cProg] at h1 h2 ⊢
  refine (ok_pure tab_ok Tryd.func4 (by kernel_rfl) rfl rfl (by rfl) (by rfl) (by rfl) (fun R hkeep => ?_) m)
  repeat (first | refine W.seq ?_ | refine W.block ?_ | refine W.skip ?_ | refine W.exit ?_ | refine W.region tab_ok 0 (by decide) (exec_run (by simp only [exa, beq_self_eq_true, ByteArray.size, Nat.reduceAdd, Nat.reduceLeDiff, Nat.reduceEqDiff, Nat.reduceMul, Int.reduceToNat, reduceIte, Int.reduceLE, Int.reduceNeg]; rfl)) ?_)
  (repeat (first | refine W.seq ?_ | refine W.block ?_ | refine W.skip ?_))
  refine W.regionK tab_ok 0 (by decide) ?_
  refine runk_split 1 (by simp only [exa, beq_self_eq_true, ByteArray.size, Nat.reduceAdd, Nat.reduceLeDiff, Nat.reduceEqDiff, Nat.reduceMul, Int.reduceToNat, reduceIte, Int.reduceLE, Int.reduceNeg]; rfl) ?_
  refine runk_call rfl rfl rfl rfl rfl (by simp) (cvs_cons cv_refl cvs_nil) (h1 _) ?_
  refine runk_exec (by simp only [exa, beq_self_eq_true, ByteArray.size, Nat.reduceAdd, Nat.reduceLeDiff, Nat.reduceEqDiff, Nat.reduceMul, Int.reduceToNat, reduceIte, Int.reduceLE, Int.reduceNeg]; rfl) ?_
  (repeat (first | refine W.seq ?_ | refine W.block ?_ | refine W.skip ?_))
  refine W.regionK tab_ok 0 (by decide) ?_
  refine runk_split 1 (by simp only [exa, beq_self_eq_true, ByteArray.size, Nat.reduceAdd, Nat.reduceLeDiff, Nat.reduceEqDiff, Nat.reduceMul, Int.reduceToNat, reduceIte, Int.reduceLE, Int.reduceNeg]; rfl) ?_
  refine runk_call rfl rfl rfl rfl rfl (by simp) (cvs_cons cv_refl cvs_nil) (h2 _) ?_
  refine runk_exec (by simp only [exa, beq_self_eq_true, ByteArray.size, Nat.reduceAdd, Nat.reduceLeDiff, Nat.reduceEqDiff, Nat.reduceMul, Int.reduceToNat, reduceIte, Int.reduceLE, Int.reduceNeg]; rfl) ?_
  (repeat (first | refine W.seq ?_ | refine W.block ?_ | refine W.skip ?_))
  refine W.regionK tab_ok 0 (by decide) ?_
  refine runk_split 0 (by simp only [exa, beq_self_eq_true, ByteArray.size, Nat.reduceAdd, Nat.reduceLeDiff, Nat.reduceEqDiff, Nat.reduceMul, Int.reduceToNat, reduceIte, Int.reduceLE, Int.reduceNeg]; rfl) ?_
  refine runk_call rfl rfl rfl rfl rfl (by simp) cvs_nil (main3_ok _) ?_
  refine runk_exec (by simp only [exa, beq_self_eq_true, ByteArray.size, Nat.reduceAdd, Nat.reduceLeDiff, Nat.reduceEqDiff, Nat.reduceMul, Int.reduceToNat, reduceIte, Int.reduceLE, Int.reduceNeg, beq_self_eq_true]; rfl) ?_
  repeat (first | refine W.seq ?_ | refine W.block ?_ | refine W.skip ?_ | refine W.exit ?_ | refine W.region tab_ok 0 (by decide) (exec_run (by simp only [exa, beq_self_eq_true, ByteArray.size, Nat.reduceAdd, Nat.reduceLeDiff, Nat.reduceEqDiff, Nat.reduceMul, Int.reduceToNat, reduceIte, Int.reduceLE, Int.reduceNeg]; rfl)) ?_)
  refine W.ret ⟨.inr rfl, by rfl, ?_⟩
  simp only [Tryd.f4, resA, resOne, toT, fin, exa, beq_self_eq_true, ByteArray.size, Nat.reduceAdd, Nat.reduceLeDiff, Nat.reduceEqDiff, Nat.reduceMul, Int.reduceToNat, reduceIte, Int.reduceLE, Int.reduceNeg, beq_self_eq_true]
end V
end Go.Proofs.YtbmbmcdaabhgnaaDoor
end
section
set_option linter.unusedVariables false
set_option linter.unusedSimpArgs false
namespace Go.Proofs.YtbmbmcdaabhgnaaDoor
open Go.ChangeShapes Go.WideShapes Go.ChangeAt Go.RowKit
open Go.ChangeMaps (open_string shut_string)
open V
theorem showTexts_met (os : Os) : laidMet Tryd.prog Rows.showTextsUptoRow.laid ((laidWorld os).forCall (fun _ _ => 0) ⟨#[], #[.agg #[.slice none 0 0, .slice none 0 0]], []⟩).memory :=
  laidMet_of_run' 8 (by kernel_rfl) (by kernel_rfl)
theorem showTexts_reads (os : Os) {H : Type} (enc : TypeId × Value → H) : ∃ places, DataW.whole enc Tryd.prog ((laidWorld os).forCall (fun _ _ => 0) ⟨#[], #[.agg #[.slice none 0 0, .slice none 0 0]], []⟩).memory Tryd.f4.params.toList Rows.showTextsSpec.vars false (#[.agg #[.slice none 0 0, .slice none 0 0]] : Array Value).toList 8 = some ([.agg [.nil, .nil]], [], places) :=
  ⟨[], by kernel_rfl⟩
set_option maxRecDepth 100000 in
set_option maxHeartbeats 4000000 in
theorem showTexts_lifted (os : Os) (started : os.Started) (H : Type) (enc : TypeId × Value → H) (F : Stop.Interp) :
    ReturnsInHanded {} Tryd.checked os 4 .any ((Rows.OpenSpec.upto Rows.showTextsSpec).preRow enc Tryd.prog Tryd.f4 Rows.showTextsUptoRow.domain false Rows.showTextsUptoRow.laid) (((Rows.OpenSpec.upto Rows.showTextsSpec).at F).post enc Tryd.prog Tryd.f4 false true false false) := by
  obtain ⟨places, hx⟩ := showTexts_reads os enc
  refine returnsInHanded_of_row (C := Tryd.checked) (s := Rows.OpenSpec.upto Rows.showTextsSpec) own started (by kernel_rfl) Tryd.func4
    (witness_row_at (enc := enc) (C := Tryd.checked) false (laidWorld os) #[.agg #[.slice none 0 0, .slice none 0 0]] rfl (by kernel_rfl) (by kernel_rfl) (by kernel_rfl)
      (OpenSpec.preRow_of_cond 8 hx (by kernel_rfl) (fun k hk => by cases hk; rfl) (by kernel_rfl) (showTexts_met os))) ?_
  intro W base args ds gs before hval0 hW _ hcond hsz0 hL hsh _
  have hbulk : Rows.uptoBulkAll (ds ++ gs) ≤ 1048576 := of_decide_eq_true (hcond _ rfl)
  clear hcond
  have hval : ∀ (j : Nat) t v, Tryd.f4.params[j]? = some t → args[j]? = some v → Value.okWide Tryd.prog W .any base t v := hval0
  have hW' := hW
  obtain ⟨p, q, hA0, hV, rfl, hfz, hnd⟩ := hW
  have hA : DataW.TrodAll enc Tryd.prog W 0 (fun _ => true) true Tryd.f4.params.toList args.toList ds p := hA0
  have hsz : ∀ n ∈ DataW.weightsEach Tryd.prog (Tryd.f4.params.toList ++ Rows.showTextsSpec.plain.varTypes Tryd.prog) (ds ++ gs), n ≤ reachBytes := fun n hn => of_decide_eq_true (List.all_eq_true.1 hsz0 n hn)
  rw [Tryd.params4] at hA hval hsz
  clear hsz0
  obtain ⟨v0, vs0, d0, ds0, p0, q0, hargs, rfl, rfl, h0, r0⟩ := trodAll_cons hA
  obtain ⟨rfl, rfl, rfl⟩ := trodAll_nil r0
  obtain rfl : args = #[v0] := by cases args; simp_all
  obtain ⟨rfl, rfl⟩ := trodVars_none hV
  clear hA0 hval0
  simp only [List.append_nil] at hW'
  have k0 := h0
  have lt0 : ∀ x ∈ p0, x.block < W.heap.size := by obtain ⟨m, hm⟩ := k0; exact DataW.trod_lt m _ _ _ hm
  have hG : GlobOk W := ⟨cell_of_shapedOpen_int (zero := #[.int .i64 0]) (t := 3) hsh (of_decide_eq_true (by kernel_rfl)) (by kernel_rfl) rfl (by kernel_rfl) (by kernel_rfl) Tryd.underlying3, tens_of hL⟩
  have fit0 : Fits Tryd.prog 33 d0 := fun n hn => hsz n (DataW.weights_mem_each (j := 0) rfl rfl n hn)
  obtain ⟨cs0, rfl, -⟩ := okWide_struct Tryd.underlying33 (hval 0 33 v0 rfl rfl)
  obtain ⟨e0, g0, w0⟩ := read_program fit0 h0 ⟨cs0, rfl⟩
  obtain ⟨n0, hn0⟩ := h0
  have hc0 : cntP g0 + 1 ≤ 1048576 := Nat.le_trans (prog_cntX (cs := cs0.toList) (x := (d0, p0)) (by simpa using w0) hn0) (Nat.le_trans (bulk_mem (by simp)) hbulk)
  refine (cok_true (vals := [_]) (lawTexts_ok g0 (by omega) _) hG (fun B => ⟨rv_prog w0, trivial⟩)).mono fun e W' ⟨he, bel⟩ => ?_
  subst he
  exact ⟨_, rfl, _, _, _, [], _, [], hW', trodAll_mk1 (shut_bool Tryd.underlying4 _), trodAll_cons_mk (Below.trod laidOut (by kernel_rfl) (of_decide_eq_true (by kernel_rfl)) k0 bel lt0) trodAll_mk0, rfl, bel.frame _, fun h => by cases h⟩
theorem showTexts_holds : Rows.ShowTextsUptoSaid :=
  OpenClaim.holds_of_cond 4 Tryd.f4 rfl rfl rfl rfl rfl rfl rfl ⟨rfl, rfl, rfl, rfl, rfl⟩ rfl rfl rfl rfl rfl (by kernel_rfl) Tryd.func4 (by kernel_rfl)
    (of_decide_eq_true (by kernel_rfl)) (by unfold Func.isWrapper; first | (rw [if_pos (by decide +kernel)]; kernel_rfl) | (rw [if_neg (by decide +kernel)]; exact ⟨rfl, rfl⟩))
    (fun os started H enc _ F => by rw [OpenClaim.pre_eq_preRow]; exact showTexts_lifted os started H enc F)
theorem showTexts_plain (f : FuncId) (fn : Func) (hf : Tryd.pinned.checked.prog.funcNamed "mordant/mordantlaw03.ShowTexts" = some f) (hfn : Tryd.pinned.checked.prog.funcs[f]? = some fn) :
    false = Tryd.pinned.checked.prog.looks [] ∧ ∀ (j : Nat) t, fn.params[j]? = some t → Tryd.pinned.checked.prog.wantsStandIn t = false := by
  obtain rfl : f = 4 := Option.some.inj ((show Tryd.prog.funcNamed "mordant/mordantlaw03.ShowTexts" = some 4 by kernel_rfl).symm.trans hf) |>.symm
  obtain rfl : fn = Tryd.f4 := (Option.some.inj (Tryd.func4.symm.trans hfn)).symm
  refine ⟨by kernel_rfl, fun j t ht => ?_⟩
  have hall : Tryd.f4.params.all (fun t => !Tryd.prog.wantsStandIn t) = true := by kernel_rfl
  have := Array.all_eq_true'.1 hall t (Array.mem_of_getElem? ht)
  have h2 : Tryd.prog.wantsStandIn t = false := by simpa using this
  exact h2
theorem showTexts_card : Rows.ShowTextsUptoCardSaid :=
  Claim7.holds_tied_plain_at .later [] _ _ _ _ showTexts_holds (fun _ h => by cases h) (by kernel_rfl) (fun _ h => by cases h) showTextsUpto_row_tie rfl ⟨rfl, rfl⟩ (by kernel_rfl) rfl showTexts_plain (by kernel_rfl)
end Go.Proofs.YtbmbmcdaabhgnaaDoor
end
