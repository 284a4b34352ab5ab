/- Joined by my own program, in build order: Bs, Vs, Vtree, Vpor, SortI, SortR, Heads, Rc, Pa, Pb, Rp. -/
import Derived.Test.YtknmcmfdbfhadaaDoorW4
import Derived.Test.YtknmcmfdbfhadaaDoorW1
import Derived.Sort.LoopGhostIn
import Derived.Sort.Row
import Derived.Sort.Grow
set_option linter.unusedVariables false
set_option linter.unusedSimpArgs false
section
/- The sets of package bits, told as two pieces of the caller's: the object, the words. -/
set_option linter.unusedVariables false
set_option linter.unusedSimpArgs false
namespace Go.Proofs.YtknmcmfdbfhadaaDoor
namespace V
open Go.RowKit
/-- A set's words. -/
def cW (R : Nat → Bool) (c : Nat) : List (List C) := (List.range c).map fun i => [.int .u64 (wd R i : Nat)]
theorem cW_len (R : Nat → Bool) (c : Nat) : (cW R c).length = c := by simp [cW]
theorem cW_at {R : Nat → Bool} {c i : Nat} (h : i < c) : (cW R c)[i]? = some [.int .u64 (wd R i : Nat)] := by simp [cW, h]
theorem cW_set {R : Nat → Bool} {c k : Nat} : (cW R c).set (wi k) [.int .u64 (wd (addF R k) (wi k) : Nat)] = cW (addF R k) c := by
  refine List.ext_getElem? fun i => ?_
  rw [List.getElem?_set, cW_len]
  by_cases hi : i < c
  · rw [cW_at hi, cW_at hi]
    by_cases e : wi k = i
    · subst e; rw [if_pos rfl, if_pos hi]
    · rw [if_neg e, wd_addF R k i (Ne.symm e)]
  · have h1 : (cW R c)[i]? = none := by rw [List.getElem?_eq_none]; rw [cW_len]; omega
    have h2 : (cW (addF R k) c)[i]? = none := by rw [List.getElem?_eq_none]; rw [cW_len]; omega
    rw [h1, h2]
    split
    · rw [if_neg (by omega)]
    · rfl
theorem bne_dec (x y : Int) : (x != y) = !decide (x = y) := by by_cases h : x = y <;> simp [h]
theorem cW_zero (c : Nat) : List.replicate c [C.int .u64 0] = cW (fun _ => false) c := by
  refine List.ext_getElem? fun i => ?_
  by_cases hi : i < c
  · rw [cW_at hi, wd_zero]; simp [hi]
  · rw [List.getElem?_eq_none (by simpa using hi), List.getElem?_eq_none (by rw [cW_len]; omega)]
def setO (n q : Nat) : O := .box 64 [.c (.int .i64 n), .own q]
def wordsO (n : Nat) (R : Nat → Bool) : O := .mrow 66 1 (cW R (nw n))
/-- A call that leaves memory as it was and hands back plain data. -/
theorem cok_calls {P : Go.Program} {f : FuncId} {args : List A} {r : A} (hen : ∀ args w, (callFunc f args).run P w = .ok (.enter f args) w) (hr : r.ids = [])
    (h : ∀ (B : Nat → Value) (I : Nat → Nat → Prop) (w : World) (vals : List Value), GlobOk w → RVl B w I args vals → Calls P f vals.toArray w fun e w' => w' = w ∧ ∃ v, e = .returned v ∧ RV B w I r v) (m : Mem) : COk P f args m r :=
  ⟨hen, hr, fun m' _ w0 I0 B I w vals hm hv => (h B I w vals hm.globNow hv).mono (by
    rintro e w' ⟨rfl, v, rfl, hv⟩
    exact ⟨v, I, rfl, Below.refl _ _, fun _ _ k => k, fun _ _ k => .inl k, hv⟩)⟩
theorem at_ok (k : Nat) (hk : k < 1000000) (m : Mem) : COk Tryd.prog 46 [.c (.int .i64 k)] m (.tup [(false, [.int .i64 (wi k : Nat)]), (false, [.int .u64 (pw k : Nat)])]) := by
  refine cok_calls (enters_of Tryd.func46 (by kernel_rfl) rfl) rfl (fun B I w vals hG hv => ?_) m
  match vals, hv with
  | [v], ⟨h1, _⟩ =>
    obtain ⟨rfl, -⟩ := RC.toInt h1
    refine (at_any k hk w).mono ?_
    rintro e w' ⟨rfl, rfl⟩
    refine ⟨rfl, _, rfl, [_, _], rfl, ⟨_, rfl, .int ?_⟩, ⟨_, rfl, .int ?_⟩, trivial⟩
    · rw [lit_wf]; simp [IntKind.min, IntKind.max, IntKind.bits, IntKind.signed, wi]; omega
    · have := pw_lt k; rw [lit_wf]; simp [IntKind.min, IntKind.max, IntKind.bits, IntKind.signed]; omega
theorem tz_ok (x : Nat) (hx : x < 18446744073709551616) (h0 : x ≠ 0) (m : Mem) : COk Tryd.prog 47 [.c (.int .u64 x)] m (.c (.int .i64 (Lib.ctz 64 x : Nat))) := by
  refine cok_calls (enters_of Tryd.func47 (by kernel_rfl) rfl) rfl (fun B I w vals hG hv => ?_) m
  match vals, hv with
  | [v], ⟨h1, _⟩ =>
    obtain ⟨rfl, -⟩ := RC.toInt h1
    refine (tz_any x hx h0 w hG).mono ?_
    rintro e w' ⟨rfl, rfl⟩
    refine ⟨rfl, _, rfl, .int ?_⟩
    have := (ctz_bit x h0 hx).1
    rw [lit_wf]; simp [IntKind.min, IntKind.max, IntKind.bits, IntKind.signed]; omega
theorem new_ok (n : Nat) (hn : n ≤ 1000000) (M : Mem) (b : Nat) (hM : ∀ d, M (b + d) = none) : CallE Tryd.prog 28 [.c (.int .i64 n)] M [] (.ptr (b + 12) 0) (upd (upd M (b + 10) (some (wordsO n fun _ => false))) (b + 12) (some (setO n (b + 10)))) := by
  refine (ok_eff tab_ok [] Tryd.func28 (by kernel_rfl) rfl rfl (by rfl) (by rfl) ?ids ?res ?sub ?wfm (fun hWF Rr hkeep => ?_))
  case ids => intro a ha j hj; simp at ha; subst ha; simp [A.ids] at hj
  case res => intro j hj; simp [A.ids] at hj; subst hj; rw [upd_same]; rfl
  case sub => exact fun j hj => live_upd j (live_upd j hj)
  case wfm => exact fun hw => mwf_some (mwf_some hw (fun i hi => by simp [wordsO, O.ids] at hi)) (fun i hi => by simp [setO, O.ids, A.ids] at hi; subst hi; rw [upd_ne _ _ (by omega), upd_same]; rfl)
  have h1 : ¬ 1000000 < (n : Int) := by omega
  have h1' : ¬ (1000000 : Int) < n := h1
  have h2 : ¬ (n : Int) < 0 := by omega
  have h3 : IntKind.i64.wrap ((n : Int) + 63) = ((n + 63 : Nat) : Int) := by
    have := wrap_nat (k := n + 63) (by omega); simpa using this
  have h4 : ((n + 63 : Nat) : Int).tdiv 64 = ((nw n : Nat) : Int) := by
    unfold nw; rw [Int.tdiv_eq_ediv_of_nonneg (by omega)]; omega
  have h5 : IntKind.i64.wrap ((nw n : Nat) : Int) = ((nw n : Nat) : Int) := wrap_nat (by unfold nw; omega)
  have h6 : nw n * 8 ≤ 140737488355328 := by unfold nw; omega
  have h7 : ((nw n : Nat) : Int) ≤ 9223372036854775807 := by unfold nw; omega
  have hz : (Lit.int IntKind.u64 0).wf = true := by decide
  have h8 : (64 : Int) = 0 ↔ False := by decide
  have h9 : 0 < (n : Int) ∨ (n : Int) = 0 := by omega
  have e0 : (if (0 : Int) < n then (n : Int) else 0) = n := by split <;> omega
  have e1 : (if (1000000 : Int) < n then (1000000 : Int) else n) = n := by split <;> omega
  repeat (first | refine W.seq ?_ | refine W.block ?_ | refine W.skip ?_ | refine W.exit ?_ | refine W.region tab_ok b (by decide) (exec_run (by simp only [exa, beq_self_eq_true, ByteArray.size, Nat.reduceAdd, Nat.reduceLeDiff, Nat.reduceEqDiff, Nat.reduceMul, Int.reduceToNat, reduceIte, Int.reduceLE, Int.reduceNeg, h1, h2, h3, h4, h5, h6, h7, h8, e0, e1, hM, Int.toNat_natCast, and_self, Nat.add_left_cancel_iff, hz, Bool.false_eq_true]; rfl)) ?_)
  refine W.ret ⟨.inr rfl, by rfl, ?_, ?mle⟩
  simp only [Tryd.f28, resE, resOne, fin, toT, exa, beq_self_eq_true, ByteArray.size, Nat.reduceAdd, Nat.reduceLeDiff, Nat.reduceEqDiff, Nat.reduceMul, Int.reduceToNat, reduceIte, Int.reduceLE, Int.reduceNeg]
  case mle =>
    refine mle_refl' ?_
    rw [cW_zero]; rfl
theorem has_ok (n : Nat) (hn : n ≤ 1000000) (R : Nat → Bool) (k : Nat) (M : Mem) (b p q : Nat) (hM : ∀ d, M (b + d) = none) (hp : M p = some (setO n q)) (hq : M q = some (wordsO n R)) :
    CallE Tryd.prog 45 [.ptr p 0, .c (.int .i64 k)] M [] (.c (.bool (decide (k < n) && R k))) M := by
  refine (ok_eff tab_ok [] Tryd.func45 (by kernel_rfl) rfl rfl (by rfl) (by rfl) ?ids ?res ?sub ?wfm (fun hWF Rr hkeep => ?_))
  case ids => intro a ha j hj; simp at ha; rcases ha with rfl | rfl <;> simp [A.ids] at hj; subst hj; simp [hp]
  case res => intro j hj; simp [A.ids] at hj
  case sub => exact fun j hj => hj
  case wfm => exact fun hw => hw
  have h0 : ¬ (k : Int) < 0 := by omega
  by_cases hk : n ≤ k
  · repeat (first | refine W.seq ?_ | refine W.block ?_ | refine W.skip ?_ | refine W.exit ?_ | refine W.region tab_ok b (by decide) (exec_run (by simp only [exa, beq_self_eq_true, ByteArray.size, Nat.reduceAdd, Nat.reduceLeDiff, Nat.reduceEqDiff, Nat.reduceMul, Int.reduceToNat, reduceIte, Int.reduceLE, Int.reduceNeg, h0, hp, setO, hk, Int.ofNat_le]; rfl)) ?_)
    refine W.cond rfl ?_ ?_
    · intro _
      repeat (first | refine W.seq ?_ | refine W.block ?_ | refine W.skip ?_ | refine W.exit ?_ | refine W.region tab_ok b (by decide) (exec_run (by simp only [exa, beq_self_eq_true, ByteArray.size, Nat.reduceAdd, Nat.reduceLeDiff, Nat.reduceEqDiff, Nat.reduceMul, Int.reduceToNat, reduceIte, Int.reduceLE, Int.reduceNeg]; rfl)) ?_)
      refine W.ret ⟨.inr rfl, by rfl, ?_, ?mle⟩
      simp only [Tryd.f45, resE, resOne, fin, toT, exa, beq_self_eq_true, ByteArray.size, Nat.reduceAdd, Nat.reduceLeDiff, Nat.reduceEqDiff, Nat.reduceMul, Int.reduceToNat, reduceIte, Int.reduceLE, Int.reduceNeg]
      case mle => exact mle_refl _
      simp only [show ¬ k < n by omega, decide_false, Bool.false_and]
    · intro h; cases h
  · have hkn : k < n := by omega
    have hw := wi_lt hkn
    repeat (first | refine W.seq ?_ | refine W.block ?_ | refine W.skip ?_ | refine W.exit ?_ | refine W.region tab_ok b (by decide) (exec_run (by simp only [exa, beq_self_eq_true, ByteArray.size, Nat.reduceAdd, Nat.reduceLeDiff, Nat.reduceEqDiff, Nat.reduceMul, Int.reduceToNat, reduceIte, Int.reduceLE, Int.reduceNeg, h0, hp, setO, hk, Int.ofNat_le]; rfl)) ?_)
    refine W.cond rfl ?_ ?_
    · intro h; cases h
    · intro _
      repeat (first | refine W.seq ?_ | refine W.block ?_ | refine W.skip ?_ | refine W.exit ?_ | refine W.region tab_ok b (by decide) (exec_run (by simp only [exa, beq_self_eq_true, ByteArray.size, Nat.reduceAdd, Nat.reduceLeDiff, Nat.reduceEqDiff, Nat.reduceMul, Int.reduceToNat, reduceIte, Int.reduceLE, Int.reduceNeg]; rfl)) ?_)
      refine W.regionK tab_ok b (by decide) ?_
      refine runk_split 1 (by simp only [exa, beq_self_eq_true, ByteArray.size, Nat.reduceAdd, Nat.reduceLeDiff, Nat.reduceEqDiff, Nat.reduceMul, Int.reduceToNat, reduceIte, Int.reduceLE, Int.reduceNeg]; rfl) ?_
      refine runk_call rfl rfl rfl rfl rfl (by simp) (cvs_cons cv_refl cvs_nil) (at_ok k (by omega) _) ?_
      refine runk_exec (by simp only [exa, beq_self_eq_true, ByteArray.size, Nat.reduceAdd, Nat.reduceLeDiff, Nat.reduceEqDiff, Nat.reduceMul, Int.reduceToNat, reduceIte, Int.reduceLE, Int.reduceNeg]; rfl) ?_
      repeat (first | refine W.seq ?_ | refine W.block ?_ | refine W.skip ?_ | refine W.exit ?_ | refine W.region tab_ok b (by decide) (exec_run (by simp only [exa, beq_self_eq_true, ByteArray.size, Nat.reduceAdd, Nat.reduceLeDiff, Nat.reduceEqDiff, Nat.reduceMul, Int.reduceToNat, reduceIte, Int.reduceLE, Int.reduceNeg, hp, hq, setO, wordsO, cW_len, cW_at hw, hw, Int.toNat_natCast, and_self]; rfl)) ?_)
      refine W.ret ⟨.inr rfl, by rfl, ?_, ?mle⟩
      simp only [Tryd.f45, resE, resOne, fin, toT, exa, beq_self_eq_true, ByteArray.size, Nat.reduceAdd, Nat.reduceLeDiff, Nat.reduceEqDiff, Nat.reduceMul, Int.reduceToNat, reduceIte, Int.reduceLE, Int.reduceNeg]
      case mle => exact mle_refl _
      simp only [hkn, decide_true, Bool.true_and]
      rw [← and_pw R k, bne_dec]
      rfl
theorem add_ok (n : Nat) (hn : n ≤ 1000000) (R : Nat → Bool) (k : Nat) (M : Mem) (b p q : Nat) (hM : ∀ d, M (b + d) = none) (hp : M p = some (setO n q)) (hq : M q = some (wordsO n R)) :
    CallE Tryd.prog 31 [.ptr p 0, .c (.int .i64 k)] M [] (.c (.bool (decide (k < n) && !R k))) (if k < n ∧ R k = false then upd M q (some (wordsO n (addF R k))) else M) := by
  by_cases hk : n ≤ k
  · rw [if_neg (by omega)]
    refine (ok_eff tab_ok [] Tryd.func31 (by kernel_rfl) rfl rfl (by rfl) (by rfl) ?ids ?res ?sub ?wfm (fun hWF Rr hkeep => ?_))
    case ids => intro a ha j hj; simp at ha; rcases ha with rfl | rfl <;> simp [A.ids] at hj; subst hj; simp [hp]
    case res => intro j hj; simp [A.ids] at hj
    case sub => exact fun j hj => hj
    case wfm => exact fun hw => hw
    have h0 : ¬ (k : Int) < 0 := by omega
    repeat (first | refine W.seq ?_ | refine W.block ?_ | refine W.skip ?_ | refine W.exit ?_ | refine W.region tab_ok b (by decide) (exec_run (by simp only [exa, beq_self_eq_true, ByteArray.size, Nat.reduceAdd, Nat.reduceLeDiff, Nat.reduceEqDiff, Nat.reduceMul, Int.reduceToNat, reduceIte, Int.reduceLE, Int.reduceNeg, h0, hp, setO, hk, Int.ofNat_le]; rfl)) ?_)
    refine W.cond rfl ?_ ?_
    · intro _
      repeat (first | refine W.seq ?_ | refine W.block ?_ | refine W.skip ?_ | refine W.exit ?_ | refine W.region tab_ok b (by decide) (exec_run (by simp only [exa, beq_self_eq_true, ByteArray.size, Nat.reduceAdd, Nat.reduceLeDiff, Nat.reduceEqDiff, Nat.reduceMul, Int.reduceToNat, reduceIte, Int.reduceLE, Int.reduceNeg]; rfl)) ?_)
      refine W.ret ⟨.inr rfl, by rfl, ?_, ?mle⟩
      simp only [Tryd.f31, resE, resOne, fin, toT, exa, beq_self_eq_true, ByteArray.size, Nat.reduceAdd, Nat.reduceLeDiff, Nat.reduceEqDiff, Nat.reduceMul, Int.reduceToNat, reduceIte, Int.reduceLE, Int.reduceNeg]
      case mle => exact mle_refl _
      simp only [show ¬ k < n by omega, decide_false, Bool.false_and]
    · intro h; cases h
  · have hkn : k < n := by omega
    have hw := wi_lt hkn
    have h0 : ¬ (k : Int) < 0 := by omega
    cases hR : R k with
    | true =>
      rw [if_neg (by simp)]
      refine (ok_eff tab_ok [] Tryd.func31 (by kernel_rfl) rfl rfl (by rfl) (by rfl) ?ids ?res ?sub ?wfm (fun hWF Rr hkeep => ?_))
      case ids => intro a ha j hj; simp at ha; rcases ha with rfl | rfl <;> simp [A.ids] at hj; subst hj; simp [hp]
      case res => intro j hj; simp [A.ids] at hj
      case sub => exact fun j hj => hj
      case wfm => exact fun hw => hw
      repeat (first | refine W.seq ?_ | refine W.block ?_ | refine W.skip ?_ | refine W.exit ?_ | refine W.region tab_ok b (by decide) (exec_run (by simp only [exa, beq_self_eq_true, ByteArray.size, Nat.reduceAdd, Nat.reduceLeDiff, Nat.reduceEqDiff, Nat.reduceMul, Int.reduceToNat, reduceIte, Int.reduceLE, Int.reduceNeg]; rfl)) ?_)
      refine W.regionK tab_ok b (by decide) ?_
      refine runk_split 13 (by simp only [exa, beq_self_eq_true, ByteArray.size, Nat.reduceAdd, Nat.reduceLeDiff, Nat.reduceEqDiff, Nat.reduceMul, Int.reduceToNat, reduceIte, Int.reduceLE, Int.reduceNeg, h0, hp, setO, hk, Int.ofNat_le]; rfl) ?_
      refine runk_callE (D := []) rfl rfl rfl rfl rfl (fun j hj => by simp at hj) (by simp) (cvs_cons cv_refl (cvs_cons cv_refl cvs_nil)) (has_ok n hn R k M (b + 100) p q (base_more hM 100) hp hq) ?_
      simp only [killL, putS, upd_upd]
      refine runk_exec (by simp only [exa, beq_self_eq_true, ByteArray.size, Nat.reduceAdd, Nat.reduceLeDiff, Nat.reduceEqDiff, Nat.reduceMul, Int.reduceToNat, reduceIte, Int.reduceLE, Int.reduceNeg, h0, hk, hR, hkn]; rfl) ?_
      refine W.cond rfl ?_ ?_
      · intro _
        repeat (first | refine W.seq ?_ | refine W.block ?_ | refine W.skip ?_ | refine W.exit ?_ | refine W.region tab_ok b (by decide) (exec_run (by simp only [exa, beq_self_eq_true, ByteArray.size, Nat.reduceAdd, Nat.reduceLeDiff, Nat.reduceEqDiff, Nat.reduceMul, Int.reduceToNat, reduceIte, Int.reduceLE, Int.reduceNeg]; rfl)) ?_)
        refine W.ret ⟨.inr rfl, by rfl, ?_, ?mle⟩
        simp only [Tryd.f31, resE, resOne, fin, toT, exa, beq_self_eq_true, ByteArray.size, Nat.reduceAdd, Nat.reduceLeDiff, Nat.reduceEqDiff, Nat.reduceMul, Int.reduceToNat, reduceIte, Int.reduceLE, Int.reduceNeg]
        case mle => exact mle_refl _
        simp
      · intro h; cases h
    | false =>
      rw [if_pos ⟨hkn, rfl⟩]
      refine (ok_eff tab_ok [] Tryd.func31 (by kernel_rfl) rfl rfl (by rfl) (by rfl) ?ids ?res ?sub ?wfm (fun hWF Rr hkeep => ?_))
      case ids => intro a ha j hj; simp at ha; rcases ha with rfl | rfl <;> simp [A.ids] at hj; subst hj; simp [hp]
      case res => intro j hj; simp [A.ids] at hj
      case sub => exact fun j hj => live_upd j hj
      case wfm => exact fun hw => mwf_some hw (fun i hi => by simp [wordsO, O.ids] at hi)
      repeat (first | refine W.seq ?_ | refine W.block ?_ | refine W.skip ?_ | refine W.exit ?_ | refine W.region tab_ok b (by decide) (exec_run (by simp only [exa, beq_self_eq_true, ByteArray.size, Nat.reduceAdd, Nat.reduceLeDiff, Nat.reduceEqDiff, Nat.reduceMul, Int.reduceToNat, reduceIte, Int.reduceLE, Int.reduceNeg]; rfl)) ?_)
      refine W.regionK tab_ok b (by decide) ?_
      refine runk_split 13 (by simp only [exa, beq_self_eq_true, ByteArray.size, Nat.reduceAdd, Nat.reduceLeDiff, Nat.reduceEqDiff, Nat.reduceMul, Int.reduceToNat, reduceIte, Int.reduceLE, Int.reduceNeg, h0, hp, setO, hk, Int.ofNat_le]; rfl) ?_
      refine runk_callE (D := []) rfl rfl rfl rfl rfl (fun j hj => by simp at hj) (by simp) (cvs_cons cv_refl (cvs_cons cv_refl cvs_nil)) (has_ok n hn R k M (b + 100) p q (base_more hM 100) hp hq) ?_
      simp only [killL, putS, upd_upd]
      refine runk_exec (by simp only [exa, beq_self_eq_true, ByteArray.size, Nat.reduceAdd, Nat.reduceLeDiff, Nat.reduceEqDiff, Nat.reduceMul, Int.reduceToNat, reduceIte, Int.reduceLE, Int.reduceNeg, h0, hk, hR, hkn]; rfl) ?_
      refine W.cond rfl ?_ ?_
      · intro h; cases h
      · intro _
        repeat (first | refine W.seq ?_ | refine W.block ?_ | refine W.skip ?_ | refine W.exit ?_ | refine W.region tab_ok b (by decide) (exec_run (by simp only [exa, beq_self_eq_true, ByteArray.size, Nat.reduceAdd, Nat.reduceLeDiff, Nat.reduceEqDiff, Nat.reduceMul, Int.reduceToNat, reduceIte, Int.reduceLE, Int.reduceNeg]; rfl)) ?_)
        refine W.regionK tab_ok b (by decide) ?_
        refine runk_split 1 (by simp only [exa, beq_self_eq_true, ByteArray.size, Nat.reduceAdd, Nat.reduceLeDiff, Nat.reduceEqDiff, Nat.reduceMul, Int.reduceToNat, reduceIte, Int.reduceLE, Int.reduceNeg]; rfl) ?_
        refine runk_call rfl rfl rfl rfl rfl (by simp) (cvs_cons cv_refl cvs_nil) (at_ok k (by omega) _) ?_
        refine runk_exec (by simp only [exa, beq_self_eq_true, ByteArray.size, Nat.reduceAdd, Nat.reduceLeDiff, Nat.reduceEqDiff, Nat.reduceMul, Int.reduceToNat, reduceIte, Int.reduceLE, Int.reduceNeg]; rfl) ?_
        repeat (first | refine W.seq ?_ | refine W.block ?_ | refine W.skip ?_ | refine W.exit ?_ | refine W.region tab_ok b (by decide) (exec_run (by simp only [exa, beq_self_eq_true, ByteArray.size, Nat.reduceAdd, Nat.reduceLeDiff, Nat.reduceEqDiff, Nat.reduceMul, Int.reduceToNat, reduceIte, Int.reduceLE, Int.reduceNeg, hp, hq, setO, wordsO, cW_len, cW_at hw, hw, Int.toNat_natCast, and_self]; rfl)) ?_)
        refine W.ret ⟨.inr rfl, by rfl, ?_, ?mle⟩
        simp only [Tryd.f31, resE, resOne, fin, toT, exa, beq_self_eq_true, ByteArray.size, Nat.reduceAdd, Nat.reduceLeDiff, Nat.reduceEqDiff, Nat.reduceMul, Int.reduceToNat, reduceIte, Int.reduceLE, Int.reduceNeg]
        case mle =>
          refine mle_refl' ?_
          have h := or_pw R k
          change IntKind.u64.wrap _ = _ at h
          refine congrArg (fun z => upd M q (some (O.mrow 66 1 z))) ?_
          rw [← cW_set]
          refine congrArg (fun z => (cW R (nw n)).set (wi k) [C.int .u64 z]) ?_
          exact h
        simp [hkn]
theorem list_ok (n : Nat) (hn : n ≤ 1000000) (R : Nat → Bool) (hR : ∀ i, R i = true → i < n) (M : Mem) (b p q : Nat) (hM : ∀ d, M (b + d) = none) (hp : M p = some (setO n q)) (hq : M q = some (wordsO n R)) :
    CallE Tryd.prog 32 [.ptr p 0] M [] (.c (.sl ((elems R n).map cN))) M := by
  have HE : elems R (64 * nw n) = elems R n := elems_top R n _ hR (by unfold nw; omega)
  have hnw := nw_le hn
  refine (ok_eff tab_ok [] Tryd.func32 (by kernel_rfl) rfl rfl (by rfl) (by rfl) ?ids ?res ?sub ?wfm (fun hWF Rr hkeep => ?_))
  case ids => intro a ha j hj; simp at ha; subst ha; simp [A.ids] at hj; subst hj; simp [hp]
  case res => intro j hj; simp [A.ids] at hj
  case sub => exact fun j hj => hj
  case wfm => exact fun hw => hw
  have hM5 : M (b + 500) = none := hM 500
  have nk : ¬ Rr.keep (b + 500) := by rw [hkeep]; show ¬ ((M (b + 500)).isSome = true ∧ _); rw [hM5]; exact fun h => absurd h.1 (by simp)
  have kept : ∀ x, ∀ j, Rr.keep j → ((upd M (b + 500) (some x)) j).isSome = true := fun x j hj => by rw [hkeep] at hj; exact live_upd j hj.1
  have hqb : (q = b + 500) = False := base_ne hM hq 500
  have hpb : (p = b + 500) = False := base_ne hM hp 500
  repeat (first | refine W.seq ?_ | refine W.block ?_ | refine W.skip ?_ | refine W.exit ?_ | refine W.region tab_ok b (by decide) (exec_run (by simp only [exa, beq_self_eq_true, ByteArray.size, Nat.reduceAdd, Nat.reduceLeDiff, Nat.reduceEqDiff, Nat.reduceMul, Int.reduceToNat, reduceIte, Int.reduceLE, Int.reduceNeg, hp, hq, setO, wordsO, cW_len]; rfl)) ?_)
  refine W.newArr 2 (b + 500) 3 1 rfl hM5 ?_
  refine W.loop (ι := Nat) (fun k => ⟨upd (upd (upd (upd (fun _ => .top) 2 (.own (b + 500))) 8 (.own q)) 9 (.c (.int .i64 (nw n)))) 10 (.c (.int .i64 k)), upd M (b + 500) (some (.arr 3 1 ((elems R (64 * k)).map cN)))⟩) (fun k => k ≤ nw n) (fun k => nw n - k) 0 ?start (Nat.zero_le _) ?round
  case start =>
    refine le_mk ?sle ?mle ?swf ?mwf (kept _) (by rfl)
    case swf => repeat (first | exact swf_top _ | refine swf_upd ?_ (by simp [A.ids, upd_app, hqb, hq]))
    case mwf => exact mwf_some hWF (fun i hi => by simp [O.ids] at hi)
    case sle => repeat (first | exact sle_top _ | exact sle_refl _ | refine sle_upd ?_ (by first | rfl | (simp only [upd_app, killS_app, A.kill, entry_zero, entry_succ, Nat.reduceEqDiff, reduceIte]; done)))
    case mle => exact mle_refl' rfl
  case round =>
    intro k hk
    repeat (first | refine W.seq ?_ | refine W.block ?_ | refine W.skip ?_ | refine W.exit ?_ | refine W.region tab_ok b (by decide) (exec_run (by simp only [exa, beq_self_eq_true, ByteArray.size, Nat.reduceAdd, Nat.reduceLeDiff, Nat.reduceEqDiff, Nat.reduceMul, Int.reduceToNat, reduceIte, Int.reduceLE, Int.reduceNeg]; rfl)) ?_)
    refine W.cond rfl ?_ ?_
    · intro hlt
      simp only [decide_eq_true_eq, Int.ofNat_lt] at hlt
      repeat (first | refine W.seq ?_ | refine W.block ?_ | refine W.skip ?_ | refine W.exit ?_ | refine W.region tab_ok b (by decide) (exec_run (by simp only [exa, beq_self_eq_true, ByteArray.size, Nat.reduceAdd, Nat.reduceLeDiff, Nat.reduceEqDiff, Nat.reduceMul, Int.reduceToNat, reduceIte, Int.reduceLE, Int.reduceNeg, hqb, hq, wordsO, cW_len, cW_at hlt, hlt, Int.toNat_natCast, and_self]; rfl)) ?_)
      refine W.loop (ι := Nat × List Nat) (fun i => ⟨upd (upd (upd (upd (upd (upd (fun _ => .top) 2 (.own (b + 500))) 8 (.own q)) 9 (.c (.int .i64 (nw n)))) 10 (.c (.int .i64 k))) 3 (.c (.int .i64 k))) 4 (.c (.int .u64 (i.1 : Nat))), upd M (b + 500) (some (.arr 3 1 (i.2.map cN)))⟩)
        (fun i => i.1 < 18446744073709551616 ∧ elems R (64 * (k + 1)) = i.2 ++ (bitsOf i.1).map (64 * k + ·)) (fun i => i.1) (wd R k, elems R (64 * k)) ?start2 ⟨wd_lt R k, elems_word R k⟩ ?round2
      case start2 =>
        refine le_mk ?sle ?mle ?swf ?mwf (kept _) (by rfl)
        case swf => repeat (first | exact swf_top _ | refine swf_upd ?_ (by simp [A.ids, upd_app, hqb, hq]))
        case mwf => exact mwf_some hWF (fun i hi => by simp [O.ids] at hi)
        case sle => repeat (first | exact sle_top _ | exact sle_refl _ | refine sle_upd ?_ (by first | rfl | (simp only [upd_app, killS_app, A.kill, entry_zero, entry_succ, Nat.reduceEqDiff, reduceIte]; done)))
        case mle => exact mle_refl' rfl
      case round2 =>
        rintro ⟨x, l⟩ ⟨hx, hl⟩
        simp only at hx hl
        by_cases h0 : x = 0
        · subst h0
          repeat (first | refine W.seq ?_ | refine W.block ?_ | refine W.skip ?_ | refine W.exit ?_ | refine W.region tab_ok b (by decide) (exec_run (by simp only [exa, beq_self_eq_true, ByteArray.size, Nat.reduceAdd, Nat.reduceLeDiff, Nat.reduceEqDiff, Nat.reduceMul, Int.reduceToNat, reduceIte, Int.reduceLE, Int.reduceNeg]; rfl)) ?_)
          refine W.cond rfl ?_ ?_
          · intro h; simp at h
          · intro _
            repeat (first | refine W.seq ?_ | refine W.block ?_ | refine W.skip ?_ | refine W.exit ?_ | refine W.region tab_ok b (by decide) (exec_run (by simp only [exa, beq_self_eq_true, ByteArray.size, Nat.reduceAdd, Nat.reduceLeDiff, Nat.reduceEqDiff, Nat.reduceMul, Int.reduceToNat, reduceIte, Int.reduceLE, Int.reduceNeg]; rfl)) ?_)
            rw [bitsOf_zero, List.map_nil, List.append_nil] at hl
            refine ⟨k + 1, hlt, by omega, ?_⟩
            rw [hl]
            refine le_mk ?sle ?mle ?swf ?mwf (kept _) (by rfl)
            case swf => repeat (first | exact swf_top _ | refine swf_upd ?_ (by simp [A.ids, upd_app, hqb, hq]))
            case mwf => exact mwf_some hWF (fun i hi => by simp [O.ids] at hi)
            case sle => repeat (first | exact sle_top _ | exact sle_refl _ | refine sle_upd ?_ (by first | rfl | (simp only [upd_app, killS_app, A.kill, entry_zero, entry_succ, Nat.reduceEqDiff, reduceIte, wrap_succ (show k + 1 < 9223372036854775808 by omega)]; done)))
            case mle => exact mle_refl' rfl
        · have h0' : ((x : Nat) : Int) = 0 ↔ False := ⟨fun h => h0 (by omega), False.elim⟩
          have hct := (ctz_bit x h0 hx).1
          have hsh : ((2 : Int) ^ min 6 IntKind.i64.bits) = 64 := by decide
          have hbl : (elems R (64 * (k + 1))).length ≤ 64 * (k + 1) := elems_len _ _
          repeat (first | refine W.seq ?_ | refine W.block ?_ | refine W.skip ?_ | refine W.exit ?_ | refine W.region tab_ok b (by decide) (exec_run (by simp only [exa, beq_self_eq_true, ByteArray.size, Nat.reduceAdd, Nat.reduceLeDiff, Nat.reduceEqDiff, Nat.reduceMul, Int.reduceToNat, reduceIte, Int.reduceLE, Int.reduceNeg]; rfl)) ?_)
          refine W.cond rfl ?_ ?_
          · intro _
            repeat (first | refine W.seq ?_ | refine W.block ?_ | refine W.skip ?_ | refine W.exit ?_ | refine W.region tab_ok b (by decide) (exec_run (by simp only [exa, beq_self_eq_true, ByteArray.size, Nat.reduceAdd, Nat.reduceLeDiff, Nat.reduceEqDiff, Nat.reduceMul, Int.reduceToNat, reduceIte, Int.reduceLE, Int.reduceNeg]; rfl)) ?_)
            refine W.regionK tab_ok b (by decide) ?_
            refine runk_split 4 (by simp only [exa, beq_self_eq_true, ByteArray.size, Nat.reduceAdd, Nat.reduceLeDiff, Nat.reduceEqDiff, Nat.reduceMul, Int.reduceToNat, reduceIte, Int.reduceLE, Int.reduceNeg]; rfl) ?_
            refine runk_call rfl rfl rfl rfl rfl (by simp) (cvs_cons cv_refl cvs_nil) (tz_ok x hx h0 _) ?_
            have e1 : IntKind.i64.wrap ((k : Int) * 2 ^ min 6 IntKind.i64.bits) = ((64 * k : Nat) : Int) := by
              rw [hsh]
              have := wrap_nat (k := 64 * k) (by omega)
              rw [← this]; congr 1; omega
            have e2 : IntKind.i64.wrap (((64 * k : Nat) : Int) + (Lib.ctz 64 x : Nat)) = ((64 * k + Lib.ctz 64 x : Nat) : Int) := by
              have := wrap_nat (k := 64 * k + Lib.ctz 64 x) (by omega)
              rw [← this]; congr 1
            have e6 : ¬ ((6 : Int) < 0) := by decide
            have hll : l.length ≤ 64 * (k + 1) := by rw [hl, List.length_append] at hbl; omega
            refine runk_split 2 (by simp only [exa, beq_self_eq_true, ByteArray.size, Nat.reduceAdd, Nat.reduceLeDiff, Nat.reduceEqDiff, Nat.reduceMul, Int.reduceToNat, reduceIte, Int.reduceLE, Int.reduceNeg, e1, e2, e6]; rfl) ?_
            refine runk_append tab_ok (b + 500) rfl rfl rfl rfl rfl rfl (by simp only [exa, beq_self_eq_true, ByteArray.size, Nat.reduceAdd, Nat.reduceLeDiff, Nat.reduceEqDiff, Nat.reduceMul, Int.reduceToNat, reduceIte, Int.reduceLE, Int.reduceNeg, e1, e2, e6]) (by simp only [exa, beq_self_eq_true, ByteArray.size, Nat.reduceAdd, Nat.reduceLeDiff, Nat.reduceEqDiff, Nat.reduceMul, Int.reduceToNat, reduceIte, Int.reduceLE, Int.reduceNeg, e1, e2, e6]; rfl) (by first | rfl | (simp only [exa, beq_self_eq_true, ByteArray.size, Nat.reduceAdd, Nat.reduceLeDiff, Nat.reduceEqDiff, Nat.reduceMul, Int.reduceToNat, reduceIte, Int.reduceLE, Int.reduceNeg, e1, e2, e6]; rfl)) rfl rfl rfl rfl nk (fun z hz => by simp at hz; subst hz; rfl) (by simp only [List.length_map, List.length_cons, List.length_nil]; omega) (by decide) ?_
            refine runk_exec (by simp only [exa, beq_self_eq_true, ByteArray.size, Nat.reduceAdd, Nat.reduceLeDiff, Nat.reduceEqDiff, Nat.reduceMul, Int.reduceToNat, reduceIte, Int.reduceLE, Int.reduceNeg]; rfl) ?_
            rw [kill_own hWF hM5]
            repeat (first | refine W.seq ?_ | refine W.block ?_ | refine W.skip ?_ | refine W.exit ?_ | refine W.region tab_ok b (by decide) (exec_run (by simp only [exa, beq_self_eq_true, ByteArray.size, Nat.reduceAdd, Nat.reduceLeDiff, Nat.reduceEqDiff, Nat.reduceMul, Int.reduceToNat, reduceIte, Int.reduceLE, Int.reduceNeg]; rfl)) ?_)
            have e3 : IntKind.u64.wrap ((x : Int) - 1) = ((x - 1 : Nat) : Int) := by rw [IntKind.wrap_u64]; omega
            have e4 : IntKind.u64.wrap ((BitVec.ofInt IntKind.u64.bits (x : Int) &&& BitVec.ofInt IntKind.u64.bits (IntKind.u64.wrap ((x : Int) - 1))).toNat : Int) = ((dropLow x : Nat) : Int) := by
              rw [e3]; exact bits_and_u64_nat x (x - 1) hx (by omega)
            refine ⟨(dropLow x, l ++ [64 * k + Lib.ctz 64 x]), ⟨Nat.lt_trans (dropLow_lt x h0) hx, ?_⟩, dropLow_lt x h0, ?_⟩
            · rw [hl, bitsOf_step x h0 hx]; simp
            refine le_mk ?sle ?mle ?swf ?mwf (kept _) (by rfl)
            case swf => repeat (first | exact swf_top _ | refine swf_upd ?_ (by simp [A.ids, upd_app, hqb, hq]))
            case mwf => exact mwf_some hWF (fun i hi => by simp [O.ids] at hi)
            case sle => repeat (first | exact sle_top _ | exact sle_refl _ | refine sle_upd ?_ (by first | rfl | (simp only [upd_app, killS_app, A.kill, entry_zero, entry_succ, Nat.reduceEqDiff, reduceIte, e4, hqb]; done)))
            case mle => exact mle_refl' (by simp only [e1, e2, List.map_append, List.map_cons, List.map_nil, cN])
          · intro h; simp [h0] at h
    · intro hge
      simp only [decide_eq_false_iff_not, Int.ofNat_lt] at hge
      obtain rfl : k = nw n := by omega
      repeat (first | refine W.seq ?_ | refine W.block ?_ | refine W.skip ?_ | refine W.exit ?_ | refine W.region tab_ok b (by decide) (exec_run (by simp only [exa, beq_self_eq_true, ByteArray.size, Nat.reduceAdd, Nat.reduceLeDiff, Nat.reduceEqDiff, Nat.reduceMul, Int.reduceToNat, reduceIte, Int.reduceLE, Int.reduceNeg]; rfl)) ?_)
      rw [HE]
      refine W.asData 2 (by simp only [exa, beq_self_eq_true, ByteArray.size, Nat.reduceAdd, Nat.reduceLeDiff, Nat.reduceEqDiff, Nat.reduceMul, Int.reduceToNat, reduceIte, Int.reduceLE, Int.reduceNeg]; rfl) ?_ (by decide)
      refine W.ret ⟨.inr rfl, by rfl, ?_, ?mle⟩
      simp only [Tryd.f32, resE, resOne, fin, toT, exa, beq_self_eq_true, ByteArray.size, Nat.reduceAdd, Nat.reduceLeDiff, Nat.reduceEqDiff, Nat.reduceMul, Int.reduceToNat, reduceIte, Int.reduceLE, Int.reduceNeg]
      case mle => exact mle_skip (mle_refl _) hM5
end V
end Go.Proofs.YtknmcmfdbfhadaaDoor
end
section
/- The walk over plain data inside a round of a loop over an iterator. -/
namespace Go.Proofs.YtknmcmfdbfhadaaDoor
namespace V
open Go.RowKit

section
variable {P : Go.Program} {T : Tab} {base : Nat} {ops : Array Oper} (hT : T.Ok P) {R : Ref} {w : World} {n : Nat} {ds : List Deferred} {l n' : Nat}
include hT
theorem plain_round (hd : ∀ o ∈ ops, ∀ d, o.dst = some d → d < n) (hnd : noDefer ops = true) {Q : Exit → Act → World → Prop} {st' : St} (hQ : ∀ a w, SR R n ds st' a w → Q .normal a w) :
    ∀ (L : List Nat) (st : St) (a : Act) (w : World), Chain P T R.keep base ops L st st' → SR R n ds st a w → wpOpsIn (Fence.wide.inRound l) n' P ops Q L a w
  | [], st, a, w, h, hr => by cases h; exact hQ a w hr
  | i :: L, st, a, w, h, hr => by
    cases h with
    | @cons _ o _ _ st1 _ hi h1 t =>
      unfold wpOpsIn
      simp only [hi]
      have hgo := h1.snd hT hr (hd o (Array.mem_of_getElem? hi)) (K := wpOpsIn (Fence.wide.inRound l) n' P ops Q L) (Q := Q) (fun a' w' hr' => plain_round hd hnd hQ L st1 a' w' t hr')
      split
      · rename_i hw; rw [if_pos hw] at hgo; exact oper_round (noDefer_spec hnd hi) hgo
      · rename_i hw; rw [if_neg hw] at hgo; exact ⟨fun _ _ => trivial, hgo⟩
end

/-- The walk from a state, inside a round. -/
def WI (l n' : Nat) (P : Go.Program) (R : Ref) (n : Nat) (ds : List Deferred) (st : St) (c : Code) (K : Exit → St → Prop) : Prop :=
  ∀ a w, SR R n ds st a w → c.wpIn (Fence.wide.inRound l) n' P (fun e a' w' => ∃ st', K e st' ∧ SR R n ds st' a' w') a w
section
variable {l n' : Nat} {P : Go.Program} {T : Tab} {R : Ref} {n : Nat} {ds : List Deferred} {st : St} {K : Exit → St → Prop}
theorem WI.mono {c : Code} {K' : Exit → St → Prop} (h : WI l n' P R n ds st c K) (hk : ∀ e st', K e st' → K' e st') : WI l n' P R n ds st c K' :=
  fun a w hr => wpIn_mono (h a w hr) fun e _ _ ⟨st', h1, h2⟩ => ⟨st', hk e st' h1, h2⟩
theorem WI.region (hT : T.Ok P) (base : Nat) {id : Nat} {ops : Array Oper} {st' : St} (hd : dstOk n ops = true) (hnd : noDefer ops = true) (h : RunL P T R.keep base ops ops.toList st st') (hk : K .normal st') : WI l n' P R n ds st (.region id ops false) K := fun a w hr =>
  wpIn_region (plain_round hT (dstOk_spec hd) hnd (fun a w hr' => ⟨st', hk, hr'⟩) _ st a w (by rw [range_range']; have := h.chain (k := 0) (by simp); simpa using this) hr)
theorem WI.regionD (hT : T.Ok P) (base : Nat) {id : Nat} {ops : Array Oper} {st' : St} (hm : P.follows .mixedOrders = true) (hok : okRegion T ops = true) (hd : dstOk n ops = true) (hnd : noDefer ops = true) (h : RunL P T R.keep base ops ops.toList st st') (hk : K .normal st') : WI l n' P R n ds st (.region id ops true) K := fun a w hr => by
  refine wpIn_mono (Q := fun e a w => e = .normal ∧ SR R n ds st' a w) (region_round (fun ⟨_, _, h, _⟩ => by cases h) hm hnd (any_snd hT hok (dstOk_spec hd) (fun a w hr' => ⟨rfl, hr'⟩) _ _ (List.range ops.size) st a _ (by simp) (by simp) (List.pairwise_lt_range) (fun i => ?_) (fun k o ho hl => ?_) ?_ (by rw [range_range']; have := h.chain (k := 0) (by simp); simpa using this))) fun e a w h => ⟨st', h.1 ▸ hk, h.2⟩
  · rw [List.mem_range]
    refine ⟨fun hi => ⟨hi, ?_⟩, fun hi => hi.1⟩
    simp [hi]
  · exfalso
    have hk := (Array.getElem?_eq_some_iff.1 ho).1
    simp [hk] at hl
  · obtain ⟨⟨B, I, hmr, hx0, hkp, hs⟩, h2, h3, hnn, h4, h5⟩ := hr
    have hE : Ext w w.drew I I := ⟨fun _ _ k => k, fun _ _ _ => rfl⟩
    exact ⟨⟨B, I, hmr.call (Below.refl _ _).drew, hx0.trans hE, hkp, fun t => (hs t).mono hE fun _ _ => rfl⟩, h2, h3, hnn, h4, h5⟩
theorem WI.seq {x y : Code} (h : WI l n' P R n ds st x (thenK (fun st' => WI l n' P R n ds st' y K) K)) : WI l n' P R n ds st (.seq x y) K := fun a w hr =>
  wpIn_seq (wpIn_mono (h a w hr) fun e a' w' ⟨st', h1, h2⟩ => by
    cases e with
    | normal => exact h1 a' w' h2
    | _ => exact ⟨st', h1, h2⟩)
theorem WI.cond {c : Operand} {x y : Code} {b : Bool} (hc : ev st.s c = .c (.bool b)) (ht : b = true → WI l n' P R n ds st x K) (hf : b = false → WI l n' P R n ds st y K) : WI l n' P R n ds st (.cond c x y) K := fun a w hr => by
  obtain ⟨B, I, hm, -, -, hs⟩ := hr.ex
  have := ev_rv hs c
  rw [hc] at this
  exact wpIn_cond_split (RC.toBool this) (fun e => ht e a w hr) (fun e => hf e a w hr)
theorem WI.block {id : Nat} {c : Code} (h : WI l n' P R n ds st c (blockK id K)) : WI l n' P R n ds st (.block id c) K := fun a w hr =>
  wpIn_block (wpIn_mono (h a w hr) fun e a' w' ⟨st', h1, h2⟩ => by
    cases e with
    | exit j =>
      simp only [blockK, Exit.inBlock] at h1 ⊢
      split
      · rename_i e; rw [if_pos e] at h1; exact ⟨st', h1, h2⟩
      · rename_i e; rw [if_neg e] at h1; exact ⟨st', h1, h2⟩
    | _ => exact ⟨st', h1, h2⟩)
theorem WI.exit {id : Nat} (h : K (.exit id) st) : WI l n' P R n ds st (.exit id) K := fun _ _ hr => wpIn_exit ⟨st, h, hr⟩
theorem WI.ret (h : K .ret st) : WI l n' P R n ds st .ret K := fun _ _ hr => wpIn_ret ⟨st, h, hr⟩
theorem WI.skip (h : K .normal st) : WI l n' P R n ds st .skip K := fun _ _ hr => wpIn_skip ⟨st, h, hr⟩
theorem WI.weakenT {τ : Nat → Nat} {st' : St} {c : Code} (hl : LeT τ R.keep st st') (h : WI l n' P R n ds st' c K) : WI l n' P R n ds st c K := fun a w hr => h a w (hr.leT hl)
theorem WI.weaken {st' : St} {c : Code} (hl : Le R.keep st st') (h : WI l n' P R n ds st' c K) : WI l n' P R n ds st c K := fun a w hr => h a w (hr.le hl)
/-- A loop: what holds of the state at its head, by an index that goes down. -/
theorem WI.loop {ι : Type} {c : Code} (mk : ι → St) (Inv : ι → Prop) (μ : ι → Nat) (i0 : ι) (hl : Le R.keep st (mk i0)) (h0 : Inv i0)
    (hround : ∀ i, Inv i → WI l n' P R n ds (mk i) c (thenK (fun st' => ∃ i', Inv i' ∧ μ i' < μ i ∧ Le R.keep st' (mk i')) K)) : WI l n' P R n ds st (.loop c) K := by
  refine WI.weaken hl ?_
  intro a w hr
  refine wpIn_loop_ghost (fun k a w => ∃ i, Inv i ∧ μ i = k ∧ SR R n ds (mk i) a w) (μ i0) ⟨i0, h0, rfl, hr⟩ ?_
  rintro k a w ⟨i, hi, rfl, hr⟩
  refine wpIn_mono (hround i hi a w hr) ?_
  rintro e a' w' ⟨st', h1, h2⟩
  cases e with
  | normal =>
    obtain ⟨i', hi', hlt, hle⟩ := h1
    exact ⟨μ i', hlt, i', hi', rfl, h2.le hle⟩
  | _ => exact ⟨st', h1, h2⟩
theorem WI.regionK (hT : T.Ok P) (base : Nat) {id : Nat} {ops : Array Oper} (hd : dstOk n ops = true) (hnd : noDefer ops = true) (h : RunK P T R.keep base ops ops.toList st (K .normal)) : WI l n' P R n ds st (.region id ops false) K :=
  let ⟨_, h1, h2⟩ := h
  WI.region hT base hd hnd h1 h2
theorem WI.regionDK (hT : T.Ok P) (base : Nat) {id : Nat} {ops : Array Oper} (hm : P.follows .mixedOrders = true) (hok : okRegion T ops = true) (hd : dstOk n ops = true) (hnd : noDefer ops = true) (h : RunK P T R.keep base ops ops.toList st (K .normal)) : WI l n' P R n ds st (.region id ops true) K :=
  let ⟨_, h1, h2⟩ := h
  WI.regionD hT base hm hok hd hnd h1 h2
end
end V
end Go.Proofs.YtknmcmfdbfhadaaDoor
end
section
/- A small drawn region, order by order: nothing is asked of what may run in either order. -/
set_option linter.unusedVariables false
set_option linter.unusedSimpArgs false
namespace Go.Proofs.YtknmcmfdbfhadaaDoor
namespace V
open Go.RowKit
def Runs (P : Go.Program) (T : Tab) (kp : Nat → Prop) (base : Nat) (ops : Array Oper) (K : St → Prop) : Nat → Array Bool → St → Prop
  | 0, listed, st => Region.ready .any ops listed = [] ∧ K st
  | f + 1, listed, st => (Region.ready .any ops listed = [] → K st) ∧ ∀ i ∈ Region.ready .any ops listed, ∀ o, ops[i]? = some o → ∃ st1, HS P T kp base ops o st st1 ∧ Runs P T kp base ops K f (listed.setIfInBounds i true) st1
section
variable {P : Go.Program} {T : Tab} (hT : T.Ok P) {R : Ref} {w : World} {n base : Nat} {ds : List Deferred} {ops : Array Oper}
include hT in
theorem runs_snd (hd : ∀ o ∈ ops, ∀ d, o.dst = some d → d < n) {K : St → Prop} {Q : Exit → Act → World → Prop} (hQ : ∀ st a w, K st → SR R n ds st a w → Q .normal a w) :
    ∀ (fuel : Nat) (listed : Array Bool) (st : St) (a : Act) (w : World), Runs P T R.keep base ops K fuel listed st → SR R n ds st a w → wpAny P .any ops Q fuel listed a w := by
  intro fuel
  induction fuel with
  | zero =>
    intro listed st a w h hr
    exact ⟨h.1, hQ _ _ _ h.2 hr⟩
  | succ fuel ih =>
    intro listed st a w h hr
    obtain ⟨h0, h1⟩ := h
    constructor
    · intro hnil
      exact hQ _ _ _ (h0 hnil) hr
    · intro i hi
      obtain ⟨-, oi, h2, -⟩ := mem_ready.1 hi
      obtain ⟨st1, h4, h5⟩ := h1 i hi oi h2
      unfold wpOp
      rw [h2]
      have hgo := h4.snd hT hr (hd oi (Array.mem_of_getElem? h2)) (K := wpAny P .any ops Q fuel (listed.setIfInBounds i true)) (Q := Q) (fun a' w' hr' => ih _ _ _ _ h5 hr')
      dsimp only
      split
      · rename_i hw; rw [if_pos hw] at hgo; exact .inl hgo
      · rename_i hw; rw [if_neg hw] at hgo; exact hgo
end
section
variable {P : Go.Program} {T : Tab} {kp : Nat → Prop} {base f : Nat} {ops : Array Oper} {K : St → Prop} {listed : Array Bool} {st st1 st2 : St}
theorem runs_end (hr : Region.ready .any ops listed = []) (hk : K st) : Runs P T kp base ops K f listed st := by
  cases f with
  | zero => exact ⟨hr, hk⟩
  | succ f => exact ⟨fun _ => hk, fun i hi => by rw [hr] at hi; cases hi⟩
theorem run_one {o : Oper} (h : exec T base ops [o] st = some st1) : HS P T kp base ops o st st1 := by
  have := exec_run (P := P) (kp := kp) h
  cases this with
  | cons h t => cases t; exact h
theorem runs_one {i : Nat} {o : Oper} (hr : Region.ready .any ops listed = [i]) (ho : ops[i]? = some o) (h : ∃ st1, exec T base ops [o] st = some st1 ∧ Runs P T kp base ops K f (listed.setIfInBounds i true) st1) : Runs P T kp base ops K (f + 1) listed st :=
  ⟨(fun e => absurd (hr.symm.trans e) (by simp)), fun k hk' o' ho' => by
    rw [hr] at hk'
    obtain rfl : k = i := by simpa using hk'
    rw [ho] at ho'
    cases ho'
    exact let ⟨st1, h1, h2⟩ := h; ⟨st1, run_one h1, h2⟩⟩
theorem runs_two {i j : Nat} {o p : Oper} (hr : Region.ready .any ops listed = [i, j]) (ho : ops[i]? = some o) (hp : ops[j]? = some p) (h : ∃ st1, exec T base ops [o] st = some st1 ∧ Runs P T kp base ops K f (listed.setIfInBounds i true) st1)
    (h' : ∃ st1, exec T base ops [p] st = some st1 ∧ Runs P T kp base ops K f (listed.setIfInBounds j true) st1) : Runs P T kp base ops K (f + 1) listed st :=
  ⟨(fun e => absurd (hr.symm.trans e) (by simp)), fun k hm o' ho' => by
    rw [hr] at hm
    rcases List.mem_cons.1 hm with rfl | hm
    · rw [ho] at ho'
      cases ho'
      exact let ⟨st1, h1, h2⟩ := h; ⟨st1, run_one h1, h2⟩
    · obtain rfl : k = j := by simpa using hm
      rw [hp] at ho'
      cases ho'
      exact let ⟨st1, h1, h2⟩ := h'; ⟨st1, run_one h1, h2⟩⟩
end
section
variable {l n' : Nat} {P : Go.Program} {T : Tab} {R : Ref} {n : Nat} {ds : List Deferred} {st : St} {K : Exit → St → Prop}
theorem WI.regionT (hT : T.Ok P) (base : Nat) {id : Nat} {ops : Array Oper} (hm : P.follows .mixedOrders = true) (hd : dstOk n ops = true) (hnd : noDefer ops = true) (h : Runs P T R.keep base ops (K .normal) ops.size (Array.replicate ops.size false) st) : WI l n' P R n ds st (.region id ops true) K := fun a w hr => by
  refine wpIn_mono (Q := fun e a w => e = .normal ∧ ∃ st', K .normal st' ∧ SR R n ds st' a w) (region_round (fun ⟨_, _, h, _⟩ => by cases h) hm hnd (runs_snd hT (dstOk_spec hd) (fun st' a w hk hr' => ⟨rfl, st', hk, hr'⟩) _ _ st a _ h ?_)) fun e a w h => h.1 ▸ h.2
  obtain ⟨⟨B, I, hmr, hx0, hkp, hs⟩, h2, h3, hnn, h4, h5⟩ := hr
  have hE : Ext w w.drew I I := ⟨fun _ _ k => k, fun _ _ _ => rfl⟩
  exact ⟨⟨B, I, hmr.call (Below.refl _ _).drew, hx0.trans hE, hkp, fun t => (hs t).mono hE fun _ _ => rfl⟩, h2, h3, hnn, h4, h5⟩
theorem W.regionT (hT : T.Ok P) (base : Nat) {id : Nat} {ops : Array Oper} (hm : P.follows .mixedOrders = true) (hd : dstOk n ops = true) (h : Runs P T R.keep base ops (K .normal) ops.size (Array.replicate ops.size false) st) : W P R n ds st (.region id ops true) K := fun a w hr => by
  refine wp_region_any hm (runs_snd hT (dstOk_spec hd) (fun st' a w hk hr' => ⟨st', hk, hr'⟩) _ _ st a _ h ?_)
  obtain ⟨⟨B, I, hmr, hx0, hkp, hs⟩, h2, h3, hnn, h4, h5⟩ := hr
  have hE : Ext w w.drew I I := ⟨fun _ _ k => k, fun _ _ _ => rfl⟩
  exact ⟨⟨B, I, hmr.call (Below.refl _ _).drew, hx0.trans hE, hkp, fun t => (hs t).mono hE fun _ _ => rfl⟩, h2, h3, hnn, h4, h5⟩
end
end V
end Go.Proofs.YtknmcmfdbfhadaaDoor
end
section
/- A drawn region, order by order; what commutes with all that may come ahead of it is taken first. -/
set_option linter.unusedVariables false
set_option linter.unusedSimpArgs false
namespace Go.Proofs.YtknmcmfdbfhadaaDoor
namespace V
open Go.RowKit
/-- Operation i may be taken first. -/
def firstB (T : Tab) (ops : Array Oper) (listed : Array Bool) (i : Nat) : Bool :=
  (Region.ready .any ops listed).contains i && (List.range ops.size).all fun j => j == i || listed.getD j true || (match ops[i]?, ops[j]? with | some oi, some oj => indep T ops oi oj | _, _ => false) || ancB ops ops.size j i
section
variable {P : Go.Program} {T : Tab} {kp : Nat → Prop} {base : Nat} {ops : Array Oper} {K : St → Prop}
theorem getD_set {listed : Array Bool} {i k : Nat} {d : Bool} : (listed.setIfInBounds i true).getD k d = if i = k ∧ i < listed.size then true else listed.getD k d := by
  rw [Array.getD_eq_getD_getElem?, Array.getD_eq_getD_getElem?, Array.getElem?_setIfInBounds]
  by_cases e : i = k
  · subst e
    by_cases h : i < listed.size
    · simp [h]
    · simp [h]
  · simp [e]
theorem closed_set {listed : Array Bool} {i : Nat} (hsz : listed.size = ops.size) (hc : ClosedL ops listed) (hi : i ∈ Region.ready .any ops listed) : ClosedL ops (listed.setIfInBounds i true) := by
  obtain ⟨h1, oi, h2, h3⟩ := mem_ready.1 hi
  have hlt := (Array.getElem?_eq_some_iff.1 h2).1
  intro k o hk hl e he hb
  have up : listed.getD e.on false = true → (listed.setIfInBounds i true).getD e.on false = true := fun h => by
    rw [getD_set]; split
    · rfl
    · exact h
  rw [getD_set] at hl
  by_cases q : i = k
  · subst q
    rw [h2] at hk
    cases hk
    exact up (h3 e he hb)
  · rw [if_neg (fun z => q z.1)] at hl
    exact up (hc k o hk hl e he hb)
theorem ready_set {listed : Array Bool} {i k : Nat} (hne : k ≠ i) (hk : k ∈ Region.ready .any ops listed) : k ∈ Region.ready .any ops (listed.setIfInBounds i true) := by
  obtain ⟨h1, o, h2, h3⟩ := mem_ready.1 hk
  refine mem_ready.2 ⟨?_, o, h2, fun e he hb => ?_⟩
  · rw [getD_set, if_neg (fun z => hne z.1.symm)]; exact h1
  · rw [getD_set]; split
    · rfl
    · exact h3 e he hb
theorem set_comm {listed : Array Bool} {i k : Nat} (h : i ≠ k) : (listed.setIfInBounds i true).setIfInBounds k true = (listed.setIfInBounds k true).setIfInBounds i true := by
  apply Array.ext_getElem?
  intro j
  simp only [Array.getElem?_setIfInBounds, Array.size_setIfInBounds]
  by_cases h1 : i = j
  · have h2 : k ≠ j := fun e => h (h1.trans e.symm)
    simp [h1, h2]
  · simp [h1]
theorem por {i : Nat} {oi : Oper} (hoi : ops[i]? = some oi) : ∀ (f : Nat) (listed : Array Bool) (st st1 : St), listed.size = ops.size → ClosedL ops listed → firstB T ops listed i = true → WF st → HS P T kp base ops oi st st1 → Runs P T kp base ops K f (listed.setIfInBounds i true) st1 →
    Runs P T kp base ops K (f + 1) listed st := by
  intro f
  induction f with
  | zero =>
    intro listed st st1 hsz hc hf hw h hr
    simp only [firstB, Bool.and_eq_true] at hf
    have hi : i ∈ Region.ready .any ops listed := by simpa using hf.1
    refine ⟨(fun e => by rw [e] at hi; cases hi), fun k hk o ho => ?_⟩
    by_cases e : k = i
    · subst e
      rw [hoi] at ho; cases ho
      exact ⟨st1, h, hr⟩
    · have := ready_set e hk
      rw [hr.1] at this; cases this
  | succ f ih =>
    intro listed st st1 hsz hc hf hw h hr
    have hf0 := hf
    simp only [firstB, Bool.and_eq_true] at hf
    have hi : i ∈ Region.ready .any ops listed := by simpa using hf.1
    obtain ⟨i1, oi', i2, i3⟩ := mem_ready.1 hi
    refine ⟨(fun e => by rw [e] at hi; cases hi), fun k hk o ho => ?_⟩
    by_cases e : k = i
    · subst e
      rw [hoi] at ho; cases ho
      exact ⟨st1, h, hr⟩
    · obtain ⟨k1, ok, k2, k3⟩ := mem_ready.1 hk
      rw [k2] at ho; cases ho
      obtain ⟨st2, q1, q2⟩ := hr.2 k (ready_set e hk) o k2
      have hlt := (Array.getElem?_eq_some_iff.1 k2).1
      have hind : indep T ops oi o = true := by
        have := List.all_eq_true.1 hf.2 k (List.mem_range.2 hlt)
        simp only [Bool.or_eq_true, beq_iff_eq, hoi, k2] at this
        rcases this with ((z | z) | z) | z
        · exact absurd z e
        · rw [k1] at z; cases z
        · exact z
        · have hl := anc_listed hc _ k o k2 k3 z
          rw [getD_tf hl] at i1; cases i1
      obtain ⟨st3, c1, c2⟩ := HS.comm hind hw h q1
      refine ⟨st3, c1, ih _ st3 st2 (by simpa using hsz) (closed_set hsz hc hk) ?_ (HS.wf hw c1) c2 (by rw [← set_comm (Ne.symm e)]; exact q2)⟩
      simp only [firstB, Bool.and_eq_true]
      refine ⟨by simpa using ready_set (Ne.symm e) hi, List.all_eq_true.2 fun j hj => ?_⟩
      have := List.all_eq_true.1 hf.2 j hj
      simp only [Bool.or_eq_true] at this ⊢
      rcases this with ((z | z) | z) | z
      · exact .inl (.inl (.inl z))
      · refine .inl (.inl (.inr ?_))
        rw [getD_set]; split
        · rfl
        · exact z
      · exact .inl (.inr z)
      · exact .inr z
/-- The same, with what holds of every state on the road. -/
def RunsW (P : Go.Program) (T : Tab) (kp : Nat → Prop) (base : Nat) (ops : Array Oper) (K : St → Prop) (f : Nat) (listed : Array Bool) (st : St) : Prop := listed.size = ops.size → ClosedL ops listed → WF st → Runs P T kp base ops K f listed st
theorem runs_first {f : Nat} {listed : Array Bool} {st : St} (i : Nat) {o : Oper} (ho : ops[i]? = some o) (hf : firstB T ops listed i = true) (h : ∃ st1, HS P T kp base ops o st st1 ∧ RunsW P T kp base ops K f (listed.setIfInBounds i true) st1) : RunsW P T kp base ops K (f + 1) listed st := by
  intro hsz hc hw
  obtain ⟨st1, h1, h2⟩ := h
  have hi : i ∈ Region.ready .any ops listed := by
    simp only [firstB, Bool.and_eq_true] at hf
    simpa using hf.1
  exact por ho f listed st st1 hsz hc hf hw h1 (h2 (by simpa using hsz) (closed_set hsz hc hi) (HS.wf hw h1))
def Steps (P : Go.Program) (T : Tab) (kp : Nat → Prop) (base : Nat) (ops : Array Oper) (K : St → Prop) (f : Nat) (listed : Array Bool) (st : St) : List Nat → Prop
  | [] => True
  | i :: l => (∃ o st1, ops[i]? = some o ∧ HS P T kp base ops o st st1 ∧ RunsW P T kp base ops K f (listed.setIfInBounds i true) st1) ∧ Steps P T kp base ops K f listed st l
theorem steps_mem {f : Nat} {listed : Array Bool} {st : St} : ∀ {l : List Nat}, Steps P T kp base ops K f listed st l → ∀ i ∈ l, ∃ o st1, ops[i]? = some o ∧ HS P T kp base ops o st st1 ∧ RunsW P T kp base ops K f (listed.setIfInBounds i true) st1
  | [], _, i, hi => by cases hi
  | j :: l, h, i, hi => by
    rcases List.mem_cons.1 hi with rfl | hi
    · exact h.1
    · exact steps_mem h.2 i hi
theorem runs_node {f : Nat} {listed : Array Bool} {st : St} (l : List Nat) (hr : Region.ready .any ops listed = l) (hne : l ≠ []) (h : Steps P T kp base ops K f listed st l) : RunsW P T kp base ops K (f + 1) listed st := by
  intro hsz hc hw
  refine ⟨fun e => absurd (hr.symm.trans e) hne, fun i hi o ho => ?_⟩
  obtain ⟨o', st1, h1, h2, h3⟩ := steps_mem h i (hr ▸ hi)
  rw [ho] at h1; cases h1
  exact ⟨st1, h2, h3 (by simpa using hsz) (closed_set hsz hc hi) (HS.wf hw h2)⟩
theorem runsw_end {f : Nat} {listed : Array Bool} {st : St} (hr : Region.ready .any ops listed = []) (hk : K st) : RunsW P T kp base ops K f listed st := fun _ _ _ => runs_end hr hk
def exec1 (T : Tab) (base : Nat) (ops : Array Oper) (i : Nat) (st : St) : Option St := match ops[i]? with
  | some o => exec T base ops [o] st
  | none => none
theorem exec1_hs {i : Nat} {st st1 : St} (h : exec1 T base ops i st = some st1) : ∃ o, ops[i]? = some o ∧ HS P T kp base ops o st st1 := by
  unfold exec1 at h
  split at h
  · rename_i o ho
    exact ⟨o, ho, run_one h⟩
  · cases h
theorem step_exec {f i : Nat} {listed : Array Bool} {st : St} {l : List Nat} (h : ∃ st1, exec1 T base ops i st = some st1 ∧ RunsW P T kp base ops K f (listed.setIfInBounds i true) st1) (t : Steps P T kp base ops K f listed st l) : Steps P T kp base ops K f listed st (i :: l) :=
  ⟨let ⟨st1, h1, h2⟩ := h; let ⟨o, ho, hs⟩ := exec1_hs h1; ⟨o, st1, ho, hs, h2⟩, t⟩
theorem first_exec {f : Nat} {listed : Array Bool} {st : St} (i : Nat) (hf : firstB T ops listed i = true) (h : ∃ st1, exec1 T base ops i st = some st1 ∧ RunsW P T kp base ops K f (listed.setIfInBounds i true) st1) : RunsW P T kp base ops K (f + 1) listed st :=
  let ⟨st1, h1, h2⟩ := h; let ⟨_, ho, hs⟩ := exec1_hs h1; runs_first i ho hf ⟨st1, hs, h2⟩
theorem step_append (hT : T.Ok P) {f i : Nat} {listed : Array Bool} {st : St} {rl : List Nat} {o : Oper} (ho : ops[i]? = some o) {c : Call} {x y : Operand} {t d : Nat} (id : Nat) {e n b : Nat} (fz : Bool) {zs : List Value} {xs ys : List (List C)} (h : wantA ops o st.s = some true) (hop : o.op = .call c) (hc : c.callee = .builtin .append) (ha : c.args = #[x, y]) (ht : c.argTypes = #[t, t]) (hd : o.dst = some d)
    (hx : ev st.s x = .own id) (hm : st.m id = some (rowO fz e n xs)) (hy : asC st.m (ev st.s y) = some (.sl ys)) (h1 : T.elem t = some (e, n)) (h2 : T.bytes e = some b) (h3 : T.zero e = some zs) (h4 : zs.length = n) (hkp : ¬ kp id) (hl : ∀ z ∈ ys, z.length = n) (hb : (xs.length + ys.length) * b ≤ 140737488355328) (hb0 : 0 < b)
    (hr : RunsW P T kp base ops K f (listed.setIfInBounds i true) ⟨upd (killS id st.s) d (.own id), upd (killM id st.m) id (some (rowO fz e n (xs ++ ys)))⟩) (tl : Steps P T kp base ops K f listed st rl) : Steps P T kp base ops K f listed st (i :: rl) :=
  ⟨⟨o, _, ho, .eff (eff_append hT hkp ⟨h, hop, hc, ha, ht, hd, hx, hm, hy, h1, h2, h3, h4, hl, hb, app_small hb hb0⟩), hr⟩, tl⟩
theorem runs_mono {K' : St → Prop} (hk : ∀ st, K st → K' st) : ∀ {f : Nat} {listed : Array Bool} {st : St}, Runs P T kp base ops K f listed st → Runs P T kp base ops K' f listed st
  | 0, _, _, h => ⟨h.1, hk _ h.2⟩
  | _ + 1, _, _, h => ⟨fun e => hk _ (h.1 e), fun i hi o ho => let ⟨st1, h1, h2⟩ := h.2 i hi o ho; ⟨st1, h1, runs_mono hk h2⟩⟩
theorem RunsW.mono {K' : St → Prop} (hk : ∀ st, K st → K' st) {f : Nat} {listed : Array Bool} {st : St} (h : RunsW P T kp base ops K f listed st) : RunsW P T kp base ops K' f listed st := fun a b c => runs_mono hk (h a b c)
theorem closed_none {n : Nat} (hn : ops.size = n) : ClosedL ops (Array.replicate n false) := fun k o hk h => by
  have hlt := (Array.getElem?_eq_some_iff.1 hk).1
  rw [Array.getD_eq_getD_getElem?, Array.getElem?_replicate, if_pos (by omega)] at h
  cases h
end
section
variable {l n' : Nat} {P : Go.Program} {T : Tab} {R : Ref} {n : Nat} {ds : List Deferred} {st : St} {K : Exit → St → Prop}
theorem W.regionP (hT : T.Ok P) (base : Nat) {id : Nat} {ops : Array Oper} (hm : P.follows .mixedOrders = true) (hd : dstOk n ops = true) (h : RunsW P T R.keep base ops (K .normal) ops.size (Array.replicate ops.size false) st) : W P R n ds st (.region id ops true) K := fun a w hr =>
  W.regionT hT base hm hd (h (by simp) (closed_none rfl) hr.wf) a w hr
theorem WI.regionP (hT : T.Ok P) (base : Nat) {id : Nat} {ops : Array Oper} (hm : P.follows .mixedOrders = true) (hd : dstOk n ops = true) (hnd : noDefer ops = true) (h : RunsW P T R.keep base ops (K .normal) ops.size (Array.replicate ops.size false) st) : WI l n' P R n ds st (.region id ops true) K := fun a w hr =>
  WI.regionT hT base hm hd hnd (h (by simp) (closed_none rfl) hr.wf) a w hr
theorem W.regionPC (hT : T.Ok P) (base : Nat) {id : Nat} {ops : Array Oper} (hm : P.follows .mixedOrders = true) (hd : dstOk n ops = true) (can : St) (h : RunsW P T R.keep base ops (fun st' => Le R.keep st' can) ops.size (Array.replicate ops.size false) st) (hK : ∀ st', Le R.keep st' can → K .normal st') : W P R n ds st (.region id ops true) K :=
  W.mono (W.regionP hT base hm hd (K := fun e st' => e = .normal ∧ Le R.keep st' can) (by
    refine RunsW.mono (fun st' h' => ⟨rfl, h'⟩) h)) (fun e st' h' => h'.1 ▸ hK st' h'.2)
end
end V
end Go.Proofs.YtknmcmfdbfhadaaDoor
end
section
/- slices.Sort of a row of ints of the call's own. -/
set_option linter.unusedVariables false
set_option linter.unusedSimpArgs false
namespace Go.Proofs.YtknmcmfdbfhadaaDoor
namespace V
open Go.RowKit
def cI (z : Int) : List C := [.int .i64 z]
def leI (x y : Int) : Bool := decide (x ≤ y)
theorem cI_len {zs : List Int} : ∀ x ∈ zs.map cI, x.length = 1 := fun x hx => by obtain ⟨z, -, rfl⟩ := List.mem_map.1 hx; rfl
theorem flat_cI : ∀ zs : List Int, flat (zs.map cI) = zs.map (C.int .i64)
  | [] => rfl
  | z :: zs => by
    have := flat_cI zs
    simp only [flat, List.map_cons, List.flatten_cons, cI] at this ⊢
    rw [this]; rfl
section
variable {w : World} {I : Nat → Nat → Prop}
theorem rcs_ints : ∀ {vs : List Value} {zs : List Int}, RCs w I vs (zs.map (C.int .i64)) → vs = zs.map (Value.int .i64) ∧ ∀ z ∈ zs, (Lit.int .i64 z).wf = true
  | [], [], _ => ⟨rfl, fun z hz => by cases hz⟩
  | v :: vs, z :: zs, h => by
    obtain ⟨h1, h2⟩ := rcs_ints h.2
    obtain ⟨e, hw⟩ := RC.toInt h.1
    exact ⟨by rw [e, h1]; rfl, fun y hy => by rcases List.mem_cons.1 hy with rfl | hy; exact hw; exact h2 y hy⟩
theorem ints_rcs : ∀ {zs : List Int}, (∀ z ∈ zs, (Lit.int .i64 z).wf = true) → RCs w I (zs.map (Value.int .i64)) (zs.map (C.int .i64))
  | [], _ => trivial
  | z :: zs, h => ⟨.int (h z (by simp)), ints_rcs fun y hy => h y (by simp [hy])⟩
end
theorem putCells_at {enc : Int → Value} {off : Nat} {d : Array Int} {c : Array Value} {j : Nat} (hj : j < d.size) (hc : off + d.size ≤ c.size) : (Sort.putCells enc off d c)[off + j]? = some (enc d[j]!) := by
  unfold Sort.putCells
  rw [Array.getElem?_mapIdx]
  have : off + j < c.size := by omega
  rw [Array.getElem?_eq_getElem this, Option.map_some, if_pos ⟨by omega, by omega⟩, Nat.add_sub_cancel_left]
theorem sort_mut {P : Go.Program} {f : FuncId} (hen : ∀ args w, (callFunc f args).run P w = .ok (.enter f args) w)
    (hS : ∀ (blk off cap : Nat) (zs : List Int) (w : World), Sort.Holds (Value.int .i64) w blk off zs.toArray → blk < w.heap.size → zs.length < 4611686018427387904 →
      Calls P f #[.slice (some ⟨blk, off, none⟩) zs.length cap] w fun e w' => e = .returned (.tuple #[]) ∧ ∃ n os, w' = Sort.grow (Sort.putRow (Value.int .i64) (Sort.ahead w n) blk off (zs.mergeSort leI).toArray) os)
    (hN : ∀ (p : Option Addr) (cap : Nat) (w : World), Calls P f #[.slice p 0 cap] w fun e w' => e = .returned (.tuple #[]) ∧ w' = w)
    (zs : List Int) (hlen : zs.length < 4611686018427387904) (M : Mem) (id : Nat) {ty : TypeId} (hM : M id = some (.mrow ty 1 (zs.map cI))) :
    CallE P f [.own id] M [] (.tup []) (upd M id (some (.mrow ty 1 ((zs.mergeSort leI).map cI)))) := by
  have liv : ∀ j, (M j).isSome = true → (upd M id (some (O.mrow ty 1 ((zs.mergeSort leI).map cI))) j).isSome = true := fun j hj => by
    unfold upd; split
    · rfl
    · exact hj
  refine ⟨hen, fun j hj => by simp [A.ids] at hj, liv, fun hw i o ho j hj => ?_, ?_⟩
  · unfold upd at ho
    split at ho
    · cases ho; simp [O.ids] at hj
    · exact liv j (hw i o ho j hj)
  intro w0 I0 B I w vals hm hv
  match vals, hv with
  | [v], ⟨h1, _⟩ =>
    obtain ⟨hvB, -⟩ := h1
    subst hvB
    obtain ⟨vs, hrow, hvs, hlx, hno⟩ := hm.objs id _ hM
    rw [flat_cI] at hvs
    obtain ⟨rfl, hwf⟩ := rcs_ints hvs
    rw [List.length_map] at hrow
    have hwf' : ∀ z ∈ zs.mergeSort leI, (Lit.int .i64 z).wf = true := fun z hz => hwf z (List.mem_mergeSort.1 hz)
    have hl' : (zs.mergeSort leI).length = zs.length := List.length_mergeSort zs
    obtain ⟨-, ho⟩ := hrow
    rcases ho with ⟨e, hn⟩ | ⟨g, off, cap, cur, e, hg, hnc, hmx, hsz, htk⟩
    · obtain rfl : zs = [] := List.length_eq_zero_iff.1 hn
      show Calls P f #[B id] w _
      rw [e]
      refine (hN none 0 w).mono ?_
      rintro e' w' ⟨rfl, rfl⟩
      refine ⟨_, B, I, rfl, ?_, Ext.refl _ _, fun _ _ _ => rfl, ⟨[], rfl, trivial⟩⟩
      have : upd M id (some (O.mrow ty 1 ((([] : List Int).mergeSort leI).map cI))) = M := by
        funext j; unfold upd; split
        · rename_i q; subst q; rw [hM]; simp
        · rfl
      rw [this]; exact hm
    · have hglt : g < w.heap.size := (Array.getElem?_eq_some_iff.1 hg).1
      have hcell : ∀ j, j < zs.length → cur[off + j]? = some (.int .i64 zs[j]!) := fun j hj => by
        have h2 : ((cur.toList.drop off).take (zs.length * 1))[j]? = some (.int .i64 zs[j]!) := by rw [htk, List.getElem?_map, List.getElem?_eq_getElem hj]; simp [hj]
        rw [List.getElem?_take, if_pos (by omega), List.getElem?_drop, Array.getElem?_toList] at h2
        exact h2
      show Calls P f #[B id] w _
      rw [e]
      refine (hS g off cap zs w (fun j hj => ?_) hglt hlen).mono ?_
      · have hj : j < zs.length := by simpa using hj
        refine ⟨?_, ?_⟩
        · simp only [World.cell?, hg]
          rw [hcell j hj]; simp
        · simp [World.frozen?, hg]
      rintro e' w' ⟨rfl, n, os, rfl⟩
      have h1 : (Sort.putRow (Value.int .i64) (Sort.ahead w n) g off (zs.mergeSort leI).toArray).heap[g]? = some (.cells (Sort.putCells (Value.int .i64) off (zs.mergeSort leI).toArray cur) ty (0, 0)) := by
        simp only [Sort.putRow, Sort.mapBlock, Sort.ahead, Array.getElem?_modify, if_true, hg, Option.map_some, Sort.onCells]
      have h2 : ∀ k, k ≠ g → (Sort.putRow (Value.int .i64) (Sort.ahead w n) g off (zs.mergeSort leI).toArray).heap[k]? = w.heap[k]? := fun k hk => by
        simp only [Sort.putRow, Sort.mapBlock, Sort.ahead, Array.getElem?_modify, if_neg (Ne.symm hk)]
      have hf : foot B id (.mrow ty 1 (zs.map cI)) g := by show (B id).ownBlock = some g; rw [e]; rfl
      have hf' : ∀ k, foot B id (.mrow ty 1 ((zs.mergeSort leI).map cI)) k → k = g := fun k hk => by
        have hk : (B id).ownBlock = some k := hk
        rw [e] at hk; cases hk; rfl
      have hIg : ∀ p, ¬ I g p := fun p => hno g (by rw [e]; rfl) p
      have hcs : (Sort.putCells (Value.int .i64) off (zs.mergeSort leI).toArray cur).size = cur.size := by simp [Sort.putCells]
      obtain ⟨hm1, hE1⟩ := hm.turn (w' := Sort.putRow (Value.int .i64) (Sort.ahead w n) g off (zs.mergeSort leI).toArray) (o' := .mrow ty 1 ((zs.mergeSort leI).map cI)) hM hf hf' hIg rfl rfl rfl (by simp [Sort.putRow, Sort.mapBlock, Sort.ahead]) h2 (fun i hi => by simp [O.ids] at hi) (fun _ => by
        refine ⟨(zs.mergeSort leI).map (Value.int .i64), ⟨by simp, ?_⟩, by rw [flat_cI]; exact ints_rcs hwf', cI_len, fun b hb p => ?_⟩
        · refine .inr ⟨g, off, cap, _, by rw [e]; simp, h1, by simp; omega, hmx, by rw [hcs]; exact hsz, ?_⟩
          refine List.ext_getElem? fun j => ?_
          rw [List.getElem?_take]
          split
          · rename_i hj
            have hj : j < zs.length := by simpa using hj
            rw [List.getElem?_drop, Array.getElem?_toList, putCells_at (by simp; omega) (by simp; omega), List.getElem?_map, List.getElem?_eq_getElem (by omega)]
            simp [hl', hj]
          · rename_i hj
            rw [List.getElem?_eq_none (by simp at hj ⊢; omega)]
        · rw [e] at hb
          have : g = b := by simpa [Value.ownBlock] using hb
          subst this
          exact hIg p)
      have hbl : Below (Sort.putRow (Value.int .i64) (Sort.ahead w n) g off (zs.mergeSort leI).toArray).heap.size (Sort.putRow (Value.int .i64) (Sort.ahead w n) g off (zs.mergeSort leI).toArray) (Sort.grow (Sort.putRow (Value.int .i64) (Sort.ahead w n) g off (zs.mergeSort leI).toArray) os) :=
        ⟨rfl, rfl, rfl, by simp [Sort.grow], fun k hk => by simp only [Sort.grow]; rw [Array.getElem?_append_left hk]⟩
      refine ⟨_, B, I, rfl, hm1.call hbl, hE1.trans ⟨fun _ _ k => k, fun b o k => hbl.cell (p := ⟨b, o, none⟩) (hm1.there b o k)⟩, fun _ _ _ => rfl, ⟨[], rfl, trivial⟩⟩
end V
end Go.Proofs.YtknmcmfdbfhadaaDoor
end
section
/- slices.Sort at []int: the shelf's contract at this program's numbers. -/
namespace Go.Proofs.YtknmcmfdbfhadaaDoor
namespace V
open Go.RowKit
theorem sort_ok (zs : List Int) (hlen : zs.length < 4611686018427387904) (M : Mem) (id : Nat) {ty : TypeId} (hM : M id = some (.mrow ty 1 (zs.map cI))) :
    CallE Tryd.prog 44 [.own id] M [] (.tup []) (upd M id (some (.mrow ty 1 ((zs.mergeSort leI).map cI)))) :=
  sort_mut (enters_of Tryd.func44 (by kernel_rfl) rfl) (fun blk off cap zs w h1 h2 h3 => Tryd.slices_Sort_int blk off cap zs w h1 h2 h3) (fun p cap w => Tryd.slices_Sort_int_none p cap w) zs hlen M id hM
end V
end Go.Proofs.YtknmcmfdbfhadaaDoor
end
section
/- graph.heads: where each node's edges lead, rising. -/
set_option linter.unusedVariables false
set_option linter.unusedSimpArgs false
namespace Go.Proofs.YtknmcmfdbfhadaaDoor
namespace V
open Go.RowKit G
def cEd (e : Nat × Nat) : List C := [.int .i64 (e.1 : Int), .int .i64 (e.2 : Int)]
def zN (l : List Nat) : List Int := l.map fun i : Nat => (i : Int)
theorem cI_zN (l : List Nat) : (zN l).map cI = l.map cN := by simp [zN, cI, cN, Function.comp_def]
/-- The edges' ends of each node so far. -/
def adjL (E : List (Nat × Nat)) (i : Nat) : List (List C) := (zN (outs E i)).map cI
theorem adjL_next {E : List (Nat × Nat)} {k f t : Nat} (h : E[k]? = some (f, t)) (i : Nat) : adjL (E.take (k + 1)) i = if i = f then adjL (E.take k) i ++ [cN t] else adjL (E.take k) i := by
  unfold adjL zN
  rw [List.take_add_one, h, Option.toList_some, outs_snoc]
  split <;> simp [cI, cN]
theorem adjL_len (E : List (Nat × Nat)) (k i : Nat) : (adjL (E.take k) i).length ≤ E.length := by
  have := outs_len (E.take k) i; have := List.length_take_le' k E; simp only [adjL, zN, List.length_map]; omega
/-- The edges of a node, rising. -/
def sortL (E : List (Nat × Nat)) (i : Nat) : List Int := (zN (outs E i)).mergeSort leI
def tabC (E : List (Nat × Nat)) (n : Nat) : List (List C) := (List.range n).map fun i => [.sl ((sortL E i).map cI)]
theorem tabC_at {E : List (Nat × Nat)} {n i : Nat} (h : i < n) : (tabC E n)[i]? = some [.sl ((sortL E i).map cI)] := by simp [tabC, h]
theorem tabC_len (E : List (Nat × Nat)) (n : Nat) : (tabC E n).length = n := by simp [tabC]
set_option maxHeartbeats 4000000 in
theorem heads_ok (n : Nat) (hn : n ≤ 100000) (E : List (Nat × Nat)) (hlen : E.length ≤ 1000000) (hE : ∀ e ∈ E, e.1 < n ∧ e.2 < n) (m : Mem) :
    COk Tryd.prog 29 [.c (.int .i64 n), .c (.sl (E.map cEd))] m (.c (.sl (tabC E n))) := by
  have hm1 : n * 24 ≤ 140737488355328 := by omega
  have hm2 : (n : Int) ≤ 9223372036854775807 := by omega
  have hn0 : (0 : Int) ≤ (n : Int) := by omega
  refine (ok_pure tab_ok Tryd.func29 (by kernel_rfl) rfl rfl (by rfl) (by rfl) (by rfl) (fun R hkeep => ?_) m)
  repeat (first | refine W.seq ?_ | refine W.block ?_ | refine W.skip ?_ | refine W.exit ?_ | refine W.region tab_ok 0 (by decide) (exec_run (by simp only [exa, beq_self_eq_true, ByteArray.size, Nat.reduceAdd, Nat.reduceLeDiff, Nat.reduceEqDiff, Nat.reduceMul, Int.reduceToNat, reduceIte, Int.reduceLE, Int.reduceNeg, Int.toNat_natCast, hm1, hm2, hn0, and_self]; rfl)) ?_)
  refine W.famStart false 11 1000 n 31 3 1 rfl (by decide) (fun i _ => ?_) ?_
  · simp only [upd_app, mem_nil_app, Nat.reduceEqDiff, reduceIte]
  refine W.loop (ι := Nat) (fun k => ⟨upd (upd (upd (upd (upd (fun _ => .top) 0 (.c (.int .i64 n))) 5 (.own 11)) 12 (.c (.sl (E.map cEd)))) 13 (.c (.int .i64 E.length))) 14 (.c (.int .i64 k)),
    upd (famM 1000 n (fun i => rowO false 3 1 (adjL (E.take k) i)) Mem.nil) 11 (some (.rows 31 (tabR 1000 n)))⟩) (fun k => k ≤ E.length) (fun k => E.length - k) 0 ?start (Nat.zero_le _) ?round
  case start =>
    refine le_mk ?sle ?_ ?swf ?mwf (kept_not hkeep) (by rfl)
    case swf => repeat (first | exact swf_top _ | refine swf_upd ?_ (by simp [A.ids, upd_app]))
    case sle => repeat (first | exact sle_top _ | exact sle_refl _ | refine sle_upd ?_ (by first | rfl | (simp only [upd_app, killS_app, A.kill, entry_zero, entry_succ, Nat.reduceEqDiff, reduceIte]; done)))
    case mwf =>
      refine mwf_upd (mwf_fam (mwf_nil _) (fun i hi => by first | exact rowO_ids | rfl)) (fun j hj => ?_)
      obtain ⟨q, hq, rfl⟩ := tabR_ids.1 hj
      simp only [upd_app, Nat.reduceEqDiff, reduceIte, fam_at hq, Option.isSome_some]
    refine mle_upd (mle_fam fun i hi => ?_) (by simp only [exa, beq_self_eq_true, ByteArray.size, Nat.reduceAdd, Nat.reduceLeDiff, Nat.reduceEqDiff, Nat.reduceMul, Int.reduceToNat, reduceIte, Int.reduceLE, Int.reduceNeg]; done)
    simp only [exa, beq_self_eq_true, ByteArray.size, Nat.reduceAdd, Nat.reduceLeDiff, Nat.reduceEqDiff, Nat.reduceMul, Int.reduceToNat, reduceIte, Int.reduceLE, Int.reduceNeg, fam_at hi, adjL]
    rfl
  case round =>
    intro k hk
    repeat (first | refine W.seq ?_ | refine W.block ?_ | refine W.skip ?_ | refine W.exit ?_ | refine W.region tab_ok 0 (by decide) (exec_run (by simp only [exa, beq_self_eq_true, ByteArray.size, Nat.reduceAdd, Nat.reduceLeDiff, Nat.reduceEqDiff, Nat.reduceMul, Int.reduceToNat, reduceIte, Int.reduceLE, Int.reduceNeg]; rfl)) ?_)
    refine W.cond rfl ?_ ?_
    · intro hlt
      simp only [decide_eq_true_eq, Int.ofNat_lt] at hlt
      obtain ⟨⟨f, t⟩, hx⟩ : ∃ x, E[k]? = some x := ⟨_, List.getElem?_eq_getElem hlt⟩
      obtain ⟨hf, ht⟩ := hE _ (List.mem_of_getElem? hx)
      replace hf : f < n := hf
      replace ht : t < n := ht
      have hf0 : (0 : Int) ≤ (f : Int) := by omega
      repeat (first | refine W.seq ?_ | refine W.block ?_ | refine W.skip ?_ | refine W.exit ?_ | refine W.region tab_ok 0 (by decide) (exec_run (by simp only [exa, beq_self_eq_true, ByteArray.size, Nat.reduceAdd, Nat.reduceLeDiff, Nat.reduceEqDiff, Nat.reduceMul, Int.reduceToNat, reduceIte, Int.reduceLE, Int.reduceNeg, at_map hx, cEd]; rfl)) ?_)
      refine W.regionPC tab_ok 0 follows_mixed (by decide) ⟨upd (upd (upd (upd (upd (fun _ => .top) 0 (.c (.int .i64 n))) 5 (.own 11)) 12 (.c (.sl (E.map cEd)))) 13 (.c (.int .i64 E.length))) 14 (.c (.int .i64 k)),
        upd (famM 1000 n (fun i => rowO false 3 1 (adjL (E.take (k + 1)) i)) Mem.nil) 11 (some (.rows 31 (tabR 1000 n)))⟩ ?_ ?_
      · refine first_exec 3 (by decide +kernel) ⟨_, by simp only [exec1, exa, beq_self_eq_true, ByteArray.size, Nat.reduceAdd, Nat.reduceLeDiff, Nat.reduceEqDiff, Nat.reduceMul, Int.reduceToNat, reduceIte, Int.reduceLE, Int.reduceNeg, hf0, hf, Int.toNat_natCast, tabR_len, and_self]; rfl, ?_⟩
        refine first_exec 4 (by decide +kernel) ⟨_, by simp only [exec1, exa, beq_self_eq_true, ByteArray.size, Nat.reduceAdd, Nat.reduceLeDiff, Nat.reduceEqDiff, Nat.reduceMul, Int.reduceToNat, reduceIte, Int.reduceLE, Int.reduceNeg, hf0, hf, Int.toNat_natCast, tabR_len, and_self]; rfl, ?_⟩
        refine first_exec 5 (by decide +kernel) ⟨_, by simp only [exec1, exa, beq_self_eq_true, ByteArray.size, Nat.reduceAdd, Nat.reduceLeDiff, Nat.reduceEqDiff, Nat.reduceMul, Int.reduceToNat, reduceIte, Int.reduceLE, Int.reduceNeg, hf0, hf, Int.toNat_natCast, tabR_len, and_self]; rfl, ?_⟩
        refine first_exec 6 (by decide +kernel) ⟨_, by simp only [exec1, exa, beq_self_eq_true, ByteArray.size, Nat.reduceAdd, Nat.reduceLeDiff, Nat.reduceEqDiff, Nat.reduceMul, Int.reduceToNat, reduceIte, Int.reduceLE, Int.reduceNeg, hf0, hf, Int.toNat_natCast, tabR_len, and_self]; rfl, ?_⟩
        refine first_exec 7 (by decide +kernel) ⟨_, by simp only [exec1, exa, beq_self_eq_true, ByteArray.size, Nat.reduceAdd, Nat.reduceLeDiff, Nat.reduceEqDiff, Nat.reduceMul, Int.reduceToNat, reduceIte, Int.reduceLE, Int.reduceNeg, hf0, hf, Int.toNat_natCast, tabR_len, and_self, tabR_at hf]; rfl, ?_⟩
        refine first_exec 8 (by decide +kernel) ⟨_, by simp only [exec1, exa, beq_self_eq_true, ByteArray.size, Nat.reduceAdd, Nat.reduceLeDiff, Nat.reduceEqDiff, Nat.reduceMul, Int.reduceToNat, reduceIte, Int.reduceLE, Int.reduceNeg, hf0, hf, Int.toNat_natCast, tabR_len, and_self]; rfl, ?_⟩
        refine first_exec 9 (by decide +kernel) ⟨_, by simp only [exec1, exa, beq_self_eq_true, ByteArray.size, Nat.reduceAdd, Nat.reduceLeDiff, Nat.reduceEqDiff, Nat.reduceMul, Int.reduceToNat, reduceIte, Int.reduceLE, Int.reduceNeg, hf0, hf, Int.toNat_natCast, tabR_len, and_self]; rfl, ?_⟩
        refine first_exec 10 (by decide +kernel) ⟨_, by simp only [exec1, exa, beq_self_eq_true, ByteArray.size, Nat.reduceAdd, Nat.reduceLeDiff, Nat.reduceEqDiff, Nat.reduceMul, Int.reduceToNat, reduceIte, Int.reduceLE, Int.reduceNeg, hf0, hf, Int.toNat_natCast, tabR_len, and_self]; rfl, ?_⟩
        repeat' (first
          | exact trivial
          | refine runsw_end (by decide +kernel) ?_
          | refine first_exec 12 (by decide +kernel) ⟨_, by simp only [exec1, exa, beq_self_eq_true, ByteArray.size, Nat.reduceAdd, Nat.reduceLeDiff, Nat.reduceEqDiff, Nat.reduceMul, Int.reduceToNat, reduceIte, Int.reduceLE, Int.reduceNeg, stO, hf0, hf, Int.toNat_natCast, tabR_len, and_self, tabR_at hf, fam_at hf, List.length_map, tabR_set hf, Option.map_some, Option.map_none]; rfl, ?_⟩
          | refine first_exec 13 (by decide +kernel) ⟨_, by simp only [exec1, exa, beq_self_eq_true, ByteArray.size, Nat.reduceAdd, Nat.reduceLeDiff, Nat.reduceEqDiff, Nat.reduceMul, Int.reduceToNat, reduceIte, Int.reduceLE, Int.reduceNeg, stO, hf0, hf, Int.toNat_natCast, tabR_len, and_self, tabR_at hf, fam_at hf, List.length_map, tabR_set hf, Option.map_some, Option.map_none]; rfl, ?_⟩
          | refine first_exec 0 (by decide +kernel) ⟨_, by simp only [exec1, exa, beq_self_eq_true, ByteArray.size, Nat.reduceAdd, Nat.reduceLeDiff, Nat.reduceEqDiff, Nat.reduceMul, Int.reduceToNat, reduceIte, Int.reduceLE, Int.reduceNeg, stO, hf0, hf, Int.toNat_natCast, tabR_len, and_self, tabR_at hf, fam_at hf, List.length_map, tabR_set hf, Option.map_some, Option.map_none]; rfl, ?_⟩
          | refine first_exec 1 (by decide +kernel) ⟨_, by simp only [exec1, exa, beq_self_eq_true, ByteArray.size, Nat.reduceAdd, Nat.reduceLeDiff, Nat.reduceEqDiff, Nat.reduceMul, Int.reduceToNat, reduceIte, Int.reduceLE, Int.reduceNeg, stO, hf0, hf, Int.toNat_natCast, tabR_len, and_self, tabR_at hf, fam_at hf, List.length_map, tabR_set hf, Option.map_some, Option.map_none]; rfl, ?_⟩
          | refine first_exec 2 (by decide +kernel) ⟨_, by simp only [exec1, exa, beq_self_eq_true, ByteArray.size, Nat.reduceAdd, Nat.reduceLeDiff, Nat.reduceEqDiff, Nat.reduceMul, Int.reduceToNat, reduceIte, Int.reduceLE, Int.reduceNeg, stO, hf0, hf, Int.toNat_natCast, tabR_len, and_self, tabR_at hf, fam_at hf, List.length_map, tabR_set hf, Option.map_some, Option.map_none]; rfl, ?_⟩
          | refine runs_node [0, 1, 11] (by decide +kernel) (by decide) ?_
          | refine runs_node [1, 11] (by decide +kernel) (by decide) ?_
          | refine runs_node [0, 2, 11] (by decide +kernel) (by decide) ?_
          | refine runs_node [2, 11] (by decide +kernel) (by decide) ?_
          | refine runs_node [0, 11] (by decide +kernel) (by decide) ?_
          | refine runs_node [11] (by decide +kernel) (by decide) ?_
          | refine step_exec ⟨_, by simp only [exec1, exa, beq_self_eq_true, ByteArray.size, Nat.reduceAdd, Nat.reduceLeDiff, Nat.reduceEqDiff, Nat.reduceMul, Int.reduceToNat, reduceIte, Int.reduceLE, Int.reduceNeg, stO, hf0, hf, Int.toNat_natCast, tabR_len, and_self, tabR_at hf, fam_at hf, List.length_map, tabR_set hf, Option.map_some, Option.map_none]; rfl, ?_⟩ ?_
          | refine step_append tab_ok rfl (f + 1000) false rfl rfl rfl rfl rfl rfl (by simp only [exa, beq_self_eq_true, ByteArray.size, Nat.reduceAdd, Nat.reduceLeDiff, Nat.reduceEqDiff, Nat.reduceMul, Int.reduceToNat, reduceIte, Int.reduceLE, Int.reduceNeg, stO, hf0, hf, Int.toNat_natCast, tabR_len, and_self, tabR_at hf, fam_at hf, List.length_map, tabR_set hf, Option.map_some, Option.map_none]; done) (by simp only [exa, beq_self_eq_true, ByteArray.size, Nat.reduceAdd, Nat.reduceLeDiff, Nat.reduceEqDiff, Nat.reduceMul, Int.reduceToNat, reduceIte, Int.reduceLE, Int.reduceNeg, stO, hf0, hf, Int.toNat_natCast, tabR_len, and_self, tabR_at hf, fam_at hf, List.length_map, tabR_set hf, Option.map_some, Option.map_none]; rfl) (by simp only [exa, beq_self_eq_true, ByteArray.size, Nat.reduceAdd, Nat.reduceLeDiff, Nat.reduceEqDiff, Nat.reduceMul, Int.reduceToNat, reduceIte, Int.reduceLE, Int.reduceNeg, stO, hf0, hf, Int.toNat_natCast, tabR_len, and_self, tabR_at hf, fam_at hf, List.length_map, tabR_set hf, Option.map_some, Option.map_none]; rfl) rfl rfl rfl rfl (nokeep hkeep) (by simp) (by have := adjL_len E k f; simp only [List.length_cons, List.length_nil]; omega) (by decide) ?_ ?_)
        all_goals
          refine le_mk ?sle ?_ ?swf ?mwf (kept_not hkeep) (by rfl)
          case swf => repeat (first | exact swf_top _ | refine swf_upd ?_ (by simp [A.ids, upd_app]))
          case sle => repeat (first | exact sle_top _ | exact sle_refl _ | refine sle_upd ?_ (by first | rfl | (simp only [upd_app, killS_app, A.kill, entry_zero, entry_succ, Nat.reduceEqDiff, reduceIte, tabR_set hf, Option.map_some, Option.map_none]; done)))
          case mwf =>
            refine mwf_upd (mwf_fam (mwf_nil _) (fun i hi => by first | exact rowO_ids | rfl)) (fun j hj => ?_)
            obtain ⟨q, hq, rfl⟩ := tabR_ids.1 hj
            simp only [upd_app, Nat.reduceEqDiff, reduceIte, fam_at hq, Option.isSome_some]
          refine mle_upd (mle_fam fun i hi => ?_) (by simp only [exa, beq_self_eq_true, ByteArray.size, Nat.reduceAdd, Nat.reduceLeDiff, Nat.reduceEqDiff, Nat.reduceMul, Int.reduceToNat, reduceIte, Int.reduceLE, Int.reduceNeg, tabR_set hf, Option.map_some, Option.map_none]; done)
          rw [adjL_next hx]
          by_cases e : i = f
          · subst e
            simp only [exa, beq_self_eq_true, ByteArray.size, Nat.reduceAdd, Nat.reduceLeDiff, Nat.reduceEqDiff, Nat.reduceMul, Int.reduceToNat, reduceIte, Int.reduceLE, Int.reduceNeg, fam_at hi, Option.map_some, Option.map_none]
            rfl
          · simp only [exa, beq_self_eq_true, ByteArray.size, Nat.reduceAdd, Nat.reduceLeDiff, Nat.reduceEqDiff, Nat.reduceMul, Int.reduceToNat, reduceIte, Int.reduceLE, Int.reduceNeg, fam_at hi, e, Nat.add_right_cancel_iff, Option.map_some, kill_rowO]
            rfl
      · intro st' hle
        refine W.weaken hle ?_
        repeat (first | refine W.seq ?_ | refine W.block ?_ | refine W.skip ?_ | refine W.exit ?_ | refine W.region tab_ok 0 (by decide) (exec_run (by simp only [exa, beq_self_eq_true, ByteArray.size, Nat.reduceAdd, Nat.reduceLeDiff, Nat.reduceEqDiff, Nat.reduceMul, Int.reduceToNat, reduceIte, Int.reduceLE, Int.reduceNeg]; rfl)) ?_)
        refine ⟨k + 1, hlt, by omega, ?_⟩
        refine le_mk ?sle ?_ ?swf ?mwf (kept_not hkeep) (by rfl)
        case swf => repeat (first | exact swf_top _ | refine swf_upd ?_ (by simp [A.ids, upd_app]))
        case sle => repeat (first | exact sle_top _ | exact sle_refl _ | refine sle_upd ?_ (by first | rfl | (simp only [upd_app, killS_app, A.kill, entry_zero, entry_succ, Nat.reduceEqDiff, reduceIte, wrap_succ (show k + 1 < 9223372036854775808 by omega)]; done)))
        case mwf =>
          refine mwf_upd (mwf_fam (mwf_nil _) (fun i hi => by first | exact rowO_ids | rfl)) (fun j hj => ?_)
          obtain ⟨q, hq, rfl⟩ := tabR_ids.1 hj
          simp only [upd_app, Nat.reduceEqDiff, reduceIte, fam_at hq, Option.isSome_some]
        refine mle_upd (mle_fam fun i hi => ?_) (by simp only [exa, beq_self_eq_true, ByteArray.size, Nat.reduceAdd, Nat.reduceLeDiff, Nat.reduceEqDiff, Nat.reduceMul, Int.reduceToNat, reduceIte, Int.reduceLE, Int.reduceNeg, wrap_succ (show k + 1 < 9223372036854775808 by omega)]; done)
        simp only [exa, beq_self_eq_true, ByteArray.size, Nat.reduceAdd, Nat.reduceLeDiff, Nat.reduceEqDiff, Nat.reduceMul, Int.reduceToNat, reduceIte, Int.reduceLE, Int.reduceNeg, fam_at hi]
    · intro hge
      simp only [decide_eq_false_iff_not, Int.ofNat_lt] at hge
      obtain rfl : k = E.length := by omega
      rw [List.take_length]
      repeat (first | refine W.seq ?_ | refine W.block ?_ | refine W.skip ?_ | refine W.exit ?_ | refine W.region tab_ok 0 (by decide) (exec_run (by simp only [exa, beq_self_eq_true, ByteArray.size, Nat.reduceAdd, Nat.reduceLeDiff, Nat.reduceEqDiff, Nat.reduceMul, Int.reduceToNat, reduceIte, Int.reduceLE, Int.reduceNeg, tabR_len]; rfl)) ?_)
      refine W.loop (ι := Nat) (fun k => ⟨upd (upd (upd (upd (fun _ => .top) 5 (.own 11)) 32 (.own 11)) 33 (.c (.int .i64 n))) 34 (.c (.int .i64 k)),
        upd (famM 1000 n (fun i => .mrow 3 1 (if i < k then (sortL E i).map cI else adjL E i)) Mem.nil) 11 (some (.rows 31 (tabR 1000 n)))⟩) (fun k => k ≤ n) (fun k => n - k) 0 ?start2 (Nat.zero_le _) ?round2
      case start2 =>
        refine le_mk ?sle ?_ ?swf ?mwf (kept_not hkeep) (by rfl)
        case swf => repeat (first | exact swf_top _ | refine swf_upd ?_ (by simp [A.ids, upd_app]))
        case sle => repeat (first | exact sle_top _ | exact sle_refl _ | refine sle_upd ?_ (by first | rfl | (simp only [upd_app, killS_app, A.kill, entry_zero, entry_succ, Nat.reduceEqDiff, reduceIte]; done)))
        case mwf =>
          refine mwf_upd (mwf_fam (mwf_nil _) (fun i hi => by first | exact rowO_ids | rfl)) (fun j hj => ?_)
          obtain ⟨q, hq, rfl⟩ := tabR_ids.1 hj
          simp only [upd_app, Nat.reduceEqDiff, reduceIte, fam_at hq, Option.isSome_some]
        refine mle_upd (mle_fam fun i hi => ?_) (by simp only [exa, beq_self_eq_true, ByteArray.size, Nat.reduceAdd, Nat.reduceLeDiff, Nat.reduceEqDiff, Nat.reduceMul, Int.reduceToNat, reduceIte, Int.reduceLE, Int.reduceNeg]; done)
        simp only [exa, beq_self_eq_true, ByteArray.size, Nat.reduceAdd, Nat.reduceLeDiff, Nat.reduceEqDiff, Nat.reduceMul, Int.reduceToNat, reduceIte, Int.reduceLE, Int.reduceNeg, fam_at hi]
        rfl
      case round2 =>
        intro k hk
        repeat (first | refine W.seq ?_ | refine W.block ?_ | refine W.skip ?_ | refine W.exit ?_ | refine W.region tab_ok 0 (by decide) (exec_run (by simp only [exa, beq_self_eq_true, ByteArray.size, Nat.reduceAdd, Nat.reduceLeDiff, Nat.reduceEqDiff, Nat.reduceMul, Int.reduceToNat, reduceIte, Int.reduceLE, Int.reduceNeg]; rfl)) ?_)
        refine W.cond rfl ?_ ?_
        · intro hlt
          simp only [decide_eq_true_eq, Int.ofNat_lt] at hlt
          repeat (first | refine W.seq ?_ | refine W.block ?_ | refine W.skip ?_ | refine W.exit ?_ | refine W.region tab_ok 0 (by decide) (exec_run (by simp only [exa, beq_self_eq_true, ByteArray.size, Nat.reduceAdd, Nat.reduceLeDiff, Nat.reduceEqDiff, Nat.reduceMul, Int.reduceToNat, reduceIte, Int.reduceLE, Int.reduceNeg, tabR_len, hlt, tabR_at hlt, and_self]; rfl)) ?_)
          refine W.regionK tab_ok 0 (by decide) ?_
          refine runk_split 1 (by simp only [exa, beq_self_eq_true, ByteArray.size, Nat.reduceAdd, Nat.reduceLeDiff, Nat.reduceEqDiff, Nat.reduceMul, Int.reduceToNat, reduceIte, Int.reduceLE, Int.reduceNeg]; rfl) ?_
          refine runk_call0 rfl rfl rfl rfl rfl rfl (by simp) (cvs_cons cv_refl cvs_nil) (sort_ok (zN (outs E k)) (by simp only [zN, List.length_map]; have := outs_len E k; omega) _ (k + 1000) (by simp only [upd_app, fam_at hlt]; rw [if_neg (by omega), if_neg (by omega)]; rfl)) ?_
          refine runk_exec (by simp only [exa, beq_self_eq_true, ByteArray.size, Nat.reduceAdd, Nat.reduceLeDiff, Nat.reduceEqDiff, Nat.reduceMul, Int.reduceToNat, reduceIte, Int.reduceLE, Int.reduceNeg]; rfl) ?_
          repeat (first | refine W.seq ?_ | refine W.block ?_ | refine W.skip ?_ | refine W.exit ?_ | refine W.region tab_ok 0 (by decide) (exec_run (by simp only [exa, beq_self_eq_true, ByteArray.size, Nat.reduceAdd, Nat.reduceLeDiff, Nat.reduceEqDiff, Nat.reduceMul, Int.reduceToNat, reduceIte, Int.reduceLE, Int.reduceNeg]; rfl)) ?_)
          refine ⟨k + 1, hlt, by omega, ?_⟩
          refine le_mk ?sle ?_ ?swf ?mwf (kept_not hkeep) (by rfl)
          case swf => repeat (first | exact swf_top _ | refine swf_upd ?_ (by simp [A.ids, upd_app]))
          case sle => repeat (first | exact sle_top _ | exact sle_refl _ | refine sle_upd ?_ (by first | rfl | (simp only [upd_app, killS_app, A.kill, entry_zero, entry_succ, Nat.reduceEqDiff, reduceIte, wrap_succ (show k + 1 < 9223372036854775808 by omega)]; done)))
          case mwf =>
            refine mwf_upd (mwf_fam (mwf_nil _) (fun i hi => by first | exact rowO_ids | rfl)) (fun j hj => ?_)
            obtain ⟨q, hq, rfl⟩ := tabR_ids.1 hj
            simp only [upd_app, Nat.reduceEqDiff, reduceIte, fam_at hq, Option.isSome_some]
          refine mle_upd (mle_fam fun i hi => ?_) (by simp only [exa, beq_self_eq_true, ByteArray.size, Nat.reduceAdd, Nat.reduceLeDiff, Nat.reduceEqDiff, Nat.reduceMul, Int.reduceToNat, reduceIte, Int.reduceLE, Int.reduceNeg, wrap_succ (show k + 1 < 9223372036854775808 by omega)]; done)
          by_cases e : i = k
          · subst e
            simp only [exa, beq_self_eq_true, ByteArray.size, Nat.reduceAdd, Nat.reduceLeDiff, Nat.reduceEqDiff, Nat.reduceMul, Int.reduceToNat, reduceIte, Int.reduceLE, Int.reduceNeg]
            rw [if_pos (by omega)]
            rfl
          · simp only [exa, beq_self_eq_true, ByteArray.size, Nat.reduceAdd, Nat.reduceLeDiff, Nat.reduceEqDiff, Nat.reduceMul, Int.reduceToNat, reduceIte, Int.reduceLE, Int.reduceNeg, fam_at hi, e, Nat.add_right_cancel_iff]
            congr 2
            by_cases e2 : i < k
            · rw [if_pos e2, if_pos (by omega)]
            · rw [if_neg e2, if_neg (by omega)]
        · intro hge
          simp only [decide_eq_false_iff_not, Int.ofNat_lt] at hge
          obtain rfl : k = n := by omega
          repeat (first | refine W.seq ?_ | refine W.block ?_ | refine W.skip ?_ | refine W.exit ?_ | refine W.region tab_ok 0 (by decide) (exec_run (by simp only [exa, beq_self_eq_true, ByteArray.size, Nat.reduceAdd, Nat.reduceLeDiff, Nat.reduceEqDiff, Nat.reduceMul, Int.reduceToNat, reduceIte, Int.reduceLE, Int.reduceNeg]; rfl)) ?_)
          refine W.tabData 4 11 1000 k (e := 3) (ce := 1) (L := fun i => (sortL E i).map cI) (fun _ => .top) hkeep rfl rfl (fun i hi => ?_) (fun _ => .inl rfl) rfl (by decide) ?_
          · simp only [exa, beq_self_eq_true, ByteArray.size, Nat.reduceAdd, Nat.reduceLeDiff, Nat.reduceEqDiff, Nat.reduceMul, Int.reduceToNat, reduceIte, Int.reduceLE, Int.reduceNeg, fam_at hi]
            rw [if_pos hi]
          refine W.ret ⟨.inr rfl, by rfl, ?_⟩
          simp only [Tryd.f29, resA, resOne, toT, fin, exa, beq_self_eq_true, ByteArray.size, Nat.reduceAdd, Nat.reduceLeDiff, Nat.reduceEqDiff, Nat.reduceMul, Int.reduceToNat, reduceIte, Int.reduceLE, Int.reduceNeg]
          rfl
end V
end Go.Proofs.YtknmcmfdbfhadaaDoor
end
section
/- graph.Reach: where ways lead. -/
set_option linter.unusedVariables false
set_option linter.unusedSimpArgs false
namespace Go.Proofs.YtknmcmfdbfhadaaDoor
namespace V
open Go.RowKit G
/-! ### Nodes and edges that may be, as natural numbers -/
def castE (e : Nat × Nat) : Int × Int := (e.1, e.2)
theorem cE_cast (E : List (Nat × Nat)) : (E.map castE).map cE = E.map cEd := by simp [cE, castE, cEd, Function.comp_def]
theorem cZ_cast (S : List Nat) : (S.map fun i : Nat => (i : Int)).map cZ = S.map cN := by simp [cZ, cN, Function.comp_def]
theorem chk_nat {n : Nat} (hn : n ≤ 100000) {E : List (Nat × Nat)} (hE : ∀ e ∈ E, e.1 < n ∧ e.2 < n) : chkB (n : Int) (E.map castE) = true := by
  have h1 : ¬ (n : Int) < 0 := by omega
  have h2 : ¬ (100000 : Int) < n := by omega
  have h3 : (E.map castE).any (badE n) = false := by
    rw [List.any_eq_false]
    intro x hx
    obtain ⟨e, he, rfl⟩ := List.mem_map.1 hx
    obtain ⟨q1, q2⟩ := hE e he
    obtain ⟨a, b⟩ := e
    replace q1 : a < n := q1
    replace q2 : b < n := q2
    intro h
    simp only [badE, castE, Bool.or_eq_true] at h
    rcases h with ((h | h) | h) | h <;> (have := of_decide_eq_true h; omega)
  simp [chkB, h1, h2, h3]
theorem checkN_ok {n : Nat} (hn : n ≤ 100000) {E : List (Nat × Nat)} (hlen : E.length ≤ 1000000) (hE : ∀ e ∈ E, e.1 < n ∧ e.2 < n) (m : Mem) : COk Tryd.prog 14 [.c (.int .i64 n), .c (.sl (E.map cEd))] m (.c (.int .i64 0)) := by
  have := check_ok n (E.map castE) (by simp; omega) m
  rwa [cE_cast, chk_nat hn hE] at this
theorem among_nat {n : Nat} {S : List Nat} (hS : ∀ i ∈ S, i < n) : (S.map fun i : Nat => (i : Int)).any (badI n) = false := by
  rw [List.any_eq_false]
  intro x hx
  obtain ⟨i, hi, rfl⟩ := List.mem_map.1 hx
  have := hS i hi
  simp [badI]; omega
theorem amongN_ok {n : Nat} {S : List Nat} (hlen : S.length ≤ 1000000000000) (hS : ∀ i ∈ S, i < n) (m : Mem) : COk Tryd.prog 27 [.c (.int .i64 n), .c (.sl (S.map cN))] m (.c (.bool true)) := by
  have := among_ok n (S.map fun i : Nat => (i : Int)) (by simpa using hlen) m
  rwa [cZ_cast, among_nat hS] at this
/-! ### The rows of ends -/
def sortN (E : List (Nat × Nat)) (i : Nat) : List Nat := (sortL E i).map Int.toNat
theorem sortL_eq (E : List (Nat × Nat)) (i : Nat) : sortL E i = (sortN E i).map fun j : Nat => (j : Int) := by
  unfold sortN
  rw [List.map_map]
  refine ((List.map_congr_left fun z hz => ?_).trans (List.map_id _)).symm
  have hz := List.mem_mergeSort.1 hz
  obtain ⟨k, -, rfl⟩ := List.mem_map.1 hz
  simp
theorem sortN_cN (E : List (Nat × Nat)) (i : Nat) : (sortL E i).map cI = (sortN E i).map cN := by
  rw [sortL_eq]; simp [cI, cN, Function.comp_def]
theorem mem_sortN {E : List (Nat × Nat)} {i j : Nat} : j ∈ sortN E i ↔ (i, j) ∈ E := by
  rw [← mem_outs]
  unfold sortN sortL zN
  rw [List.mem_map]
  constructor
  · rintro ⟨z, hz, rfl⟩
    obtain ⟨k, hk, rfl⟩ := List.mem_map.1 (List.mem_mergeSort.1 hz)
    simpa using hk
  · intro h
    exact ⟨(j : Int), List.mem_mergeSort.2 (List.mem_map.2 ⟨j, h, rfl⟩), by simp⟩
theorem sortN_len (E : List (Nat × Nat)) (i : Nat) : (sortN E i).length ≤ E.length := by
  have := outs_len E i
  simp only [sortN, sortL, zN, List.length_map, List.length_mergeSort]
  exact this
theorem tabN_at {E : List (Nat × Nat)} {n i : Nat} (h : i < n) : (tabC E n)[i]? = some [.sl ((sortN E i).map cN)] := by rw [tabC_at h, sortN_cN]
theorem cloneInt_ok (l : List Nat) (hl : l.length ≤ 10000000000000) (M : Mem) (id : Nat) (hid : M id = none) : CallE Tryd.prog 30 [.c (.sl (l.map cN))] M [] (.own id) (upd M id (some (.mrow 3 1 (l.map cN)))) :=
  clone_mut (size := 1) (bytes := 8) Tryd.laysClone30 ⟨_, _, rfl, rfl, rfl, rfl, rfl⟩ (by decide) (enters_of Tryd.func30 (by kernel_rfl) rfl) (l.map cN) (fun x hx => by obtain ⟨y, -, rfl⟩ := List.mem_map.1 hx; rfl) (by rw [List.length_map]; omega) M id hid
theorem addN_ok (n : Nat) (hn : n ≤ 1000000) (R : Nat → Bool) (k : Nat) (hk : k < n) (M : Mem) (b p q : Nat) (hM : ∀ d, M (b + d) = none) (hp : M p = some (setO n q)) (hq : M q = some (wordsO n R)) :
    CallE Tryd.prog 31 [.ptr p 0, .c (.int .i64 k)] M [] (.c (.bool (!R k))) (upd M q (some (wordsO n (G.mark R k)))) := by
  have h := add_ok n hn R k M b p q hM hp hq
  rw [show decide (k < n) = true by simpa using hk, Bool.true_and] at h
  have e : G.mark R k = addF R k := rfl
  rw [e]
  cases hR : R k with
  | false => rw [hR, if_pos ⟨hk, rfl⟩] at h; exact h
  | true =>
    rw [hR, if_neg (by simp)] at h
    have e2 : addF R k = R := by
      funext j
      simp only [addF]
      by_cases q : j = k
      · subst q; rw [hR]; rfl
      · simp [q]
    rw [e2, upd_id _ hq]; exact h
theorem last_at (ws : List Nat) (i : Nat) : ((ws ++ [i]).map cN)[ws.length]? = some (cN i) := by simp
theorem take_last (ws : List Nat) (i : Nat) : (((ws ++ [i]).map cN).take ws.length).drop 0 = ws.map cN := by simp
theorem wrap_last {k : Nat} (h : k < 9223372036854775807) : IntKind.i64.wrap (((k + 1 : Nat) : Int) - 1) = (k : Int) := by
  rw [int_pred]; exact wrap_nat (by omega)
theorem in_next {S : List Nat} {k x : Nat} (h : S[k]? = some x) : G.mark (fun i => decide (i ∈ S.take k)) x = fun i => decide (i ∈ S.take (k + 1)) := by
  funext i
  rw [List.take_add_one, h]
  simp [G.mark, List.mem_append]
set_option maxHeartbeats 2000000 in
theorem reachG_ok (n : Nat) (hn : n ≤ 100000) (E : List (Nat × Nat)) (hlen : E.length ≤ 1000000) (hE : ∀ e ∈ E, e.1 < n ∧ e.2 < n) (S : List Nat) (hsl : S.length ≤ 1000000000000) (hS : ∀ i ∈ S, i < n) (m : Mem) :
    COk Tryd.prog 17 [.c (.int .i64 n), .c (.sl (E.map cEd)), .c (.sl (S.map cN))] m (.tup [(false, [.sl ((reachL E S n).map cN)]), (false, [.int .i64 0])]) := by
  refine (ok_pure tab_ok Tryd.func17 (by kernel_rfl) rfl rfl (by rfl) (by rfl) (by rfl) (fun R hkeep => ?_) m)
  repeat (first | refine W.seq ?_ | refine W.block ?_ | refine W.skip ?_ | refine W.exit ?_ | refine W.region tab_ok 0 (by decide) (exec_run (by simp only [exa, beq_self_eq_true, ByteArray.size, Nat.reduceAdd, Nat.reduceLeDiff, Nat.reduceEqDiff, Nat.reduceMul, Int.reduceToNat, reduceIte, Int.reduceLE, Int.reduceNeg]; rfl)) ?_)
  refine W.regionK tab_ok 0 (by decide) ?_
  refine runk_split 2 (by simp only [exa, beq_self_eq_true, ByteArray.size, Nat.reduceAdd, Nat.reduceLeDiff, Nat.reduceEqDiff, Nat.reduceMul, Int.reduceToNat, reduceIte, Int.reduceLE, Int.reduceNeg]; rfl) ?_
  refine runk_call rfl rfl rfl rfl rfl (by simp) (cvs_cons cv_refl (cvs_cons cv_refl cvs_nil)) (checkN_ok hn hlen hE _) ?_
  refine runk_exec (by simp only [exa, beq_self_eq_true, ByteArray.size, Nat.reduceAdd, Nat.reduceLeDiff, Nat.reduceEqDiff, Nat.reduceMul, Int.reduceToNat, reduceIte, Int.reduceLE, Int.reduceNeg]; rfl) ?_
  refine W.cond rfl ?_ ?_
  · intro h; cases h
  intro _
  repeat (first | refine W.seq ?_ | refine W.block ?_ | refine W.skip ?_ | refine W.exit ?_ | refine W.region tab_ok 0 (by decide) (exec_run (by simp only [exa, beq_self_eq_true, ByteArray.size, Nat.reduceAdd, Nat.reduceLeDiff, Nat.reduceEqDiff, Nat.reduceMul, Int.reduceToNat, reduceIte, Int.reduceLE, Int.reduceNeg]; rfl)) ?_)
  refine W.regionK tab_ok 0 (by decide) ?_
  refine runk_split 2 (by simp only [exa, beq_self_eq_true, ByteArray.size, Nat.reduceAdd, Nat.reduceLeDiff, Nat.reduceEqDiff, Nat.reduceMul, Int.reduceToNat, reduceIte, Int.reduceLE, Int.reduceNeg]; rfl) ?_
  refine runk_call rfl rfl rfl rfl rfl (by simp) (cvs_cons cv_refl (cvs_cons cv_refl cvs_nil)) (amongN_ok hsl hS _) ?_
  refine runk_exec (by simp only [exa, beq_self_eq_true, ByteArray.size, Nat.reduceAdd, Nat.reduceLeDiff, Nat.reduceEqDiff, Nat.reduceMul, Int.reduceToNat, reduceIte, Int.reduceLE, Int.reduceNeg]; rfl) ?_
  refine W.cond rfl ?_ ?_
  · intro h; cases h
  intro _
  repeat (first | refine W.seq ?_ | refine W.block ?_ | refine W.skip ?_ | refine W.exit ?_ | refine W.region tab_ok 0 (by decide) (exec_run (by simp only [exa, beq_self_eq_true, ByteArray.size, Nat.reduceAdd, Nat.reduceLeDiff, Nat.reduceEqDiff, Nat.reduceMul, Int.reduceToNat, reduceIte, Int.reduceLE, Int.reduceNeg]; rfl)) ?_)
  refine W.regionK tab_ok 0 (by decide) ?_
  refine runk_split 1 (by simp only [exa, beq_self_eq_true, ByteArray.size, Nat.reduceAdd, Nat.reduceLeDiff, Nat.reduceEqDiff, Nat.reduceMul, Int.reduceToNat, reduceIte, Int.reduceLE, Int.reduceNeg]; rfl) ?_
  refine runk_callE (D := []) rfl rfl rfl rfl rfl (fun j hj => by simp at hj) (by simp) (cvs_cons cv_refl cvs_nil) (new_ok n (by omega) _ 100000 (fun d => rfl)) ?_
  simp only [killL, putS, upd_upd]
  refine runk_split 2 (by simp only [exa, beq_self_eq_true, ByteArray.size, Nat.reduceAdd, Nat.reduceLeDiff, Nat.reduceEqDiff, Nat.reduceMul, Int.reduceToNat, reduceIte, Int.reduceLE, Int.reduceNeg]; rfl) ?_
  refine runk_call rfl rfl rfl rfl rfl (by simp) (cvs_cons cv_refl (cvs_cons cv_refl cvs_nil)) (heads_ok n hn E hlen hE _) ?_
  refine runk_exec (by simp only [exa, beq_self_eq_true, ByteArray.size, Nat.reduceAdd, Nat.reduceLeDiff, Nat.reduceEqDiff, Nat.reduceMul, Int.reduceToNat, reduceIte, Int.reduceLE, Int.reduceNeg]; rfl) ?_
  repeat (first | refine W.seq ?_ | refine W.block ?_ | refine W.skip ?_ | refine W.exit ?_ | refine W.region tab_ok 0 (by decide) (exec_run (by simp only [exa, beq_self_eq_true, ByteArray.size, Nat.reduceAdd, Nat.reduceLeDiff, Nat.reduceEqDiff, Nat.reduceMul, Int.reduceToNat, reduceIte, Int.reduceLE, Int.reduceNeg]; rfl)) ?_)
  refine W.regionK tab_ok 0 (by decide) ?_
  refine runk_split 1 (by simp only [exa, beq_self_eq_true, ByteArray.size, Nat.reduceAdd, Nat.reduceLeDiff, Nat.reduceEqDiff, Nat.reduceMul, Int.reduceToNat, reduceIte, Int.reduceLE, Int.reduceNeg]; rfl) ?_
  refine runk_callE (D := []) rfl rfl rfl rfl rfl (fun j hj => by simp at hj) (by simp) (cvs_cons cv_refl cvs_nil) (cloneInt_ok S (by omega) _ 200 rfl) ?_
  simp only [killL, putS, upd_upd]
  refine runk_exec (by simp only [exa, beq_self_eq_true, ByteArray.size, Nat.reduceAdd, Nat.reduceLeDiff, Nat.reduceEqDiff, Nat.reduceMul, Int.reduceToNat, reduceIte, Int.reduceLE, Int.reduceNeg]; rfl) ?_
  repeat (first | refine W.seq ?_ | refine W.block ?_ | refine W.skip ?_ | refine W.exit ?_ | refine W.region tab_ok 0 (by decide) (exec_run (by simp only [exa, beq_self_eq_true, ByteArray.size, Nat.reduceAdd, Nat.reduceLeDiff, Nat.reduceEqDiff, Nat.reduceMul, Int.reduceToNat, reduceIte, Int.reduceLE, Int.reduceNeg]; rfl)) ?_)
  refine W.loop (ι := Nat) (fun k => ⟨upd (upd (upd (upd (upd (upd (fun _ => .top) 8 (.ptr 100012 0)) 9 (.c (.sl (tabC E n)))) 10 (.own 200)) 33 (.own 200)) 34 (.c (.int .i64 S.length))) 35 (.c (.int .i64 k)),
      upd (upd (upd Mem.nil 200 (some (.mrow 3 1 (S.map cN)))) 100012 (some (setO n 100010))) 100010 (some (wordsO n fun i => decide (i ∈ S.take k)))⟩) (fun k => k ≤ S.length) (fun k => S.length - k) 0 ?start (Nat.zero_le _) ?round
  case start =>
    refine le_mk ?sle ?mle ?swf ?mwf (kept_not hkeep) (by rfl)
    case swf => repeat (first | exact swf_top _ | refine swf_upd ?_ (by simp [A.ids, upd_app, setO, wordsO, List.take_zero, List.not_mem_nil, decide_false]))
    case mwf => repeat (first | exact mwf_nil _ | refine mwf_upd ?_ (by simp [A.ids, O.ids, upd_app, setO, wordsO, List.take_zero, List.not_mem_nil, decide_false]))
    case mle => repeat (first | exact mle_nil _ | exact mle_refl _ | refine mle_upd ?_ (by first | rfl | (simp only [upd_app, killM_app, O.kill, A.kill, Nat.reduceEqDiff, reduceIte, Option.map_some, Option.map_none, List.map_cons, List.map_nil, setO, wordsO, List.take_zero, List.not_mem_nil, decide_false]; done)))
    case sle => repeat (first | exact sle_top _ | exact sle_refl _ | refine sle_upd ?_ (by first | rfl | (simp only [upd_app, killS_app, A.kill, entry_zero, entry_succ, Nat.reduceEqDiff, reduceIte, setO, wordsO, List.take_zero, List.not_mem_nil, decide_false]; done)))
  case round =>
    intro k hk
    repeat (first | refine W.seq ?_ | refine W.block ?_ | refine W.skip ?_ | refine W.exit ?_ | refine W.region tab_ok 0 (by decide) (exec_run (by simp only [exa, beq_self_eq_true, ByteArray.size, Nat.reduceAdd, Nat.reduceLeDiff, Nat.reduceEqDiff, Nat.reduceMul, Int.reduceToNat, reduceIte, Int.reduceLE, Int.reduceNeg]; rfl)) ?_)
    refine W.cond rfl ?_ ?_
    · intro hlt
      simp only [decide_eq_true_eq, Int.ofNat_lt] at hlt
      obtain ⟨x, hx⟩ : ∃ x, S[k]? = some x := ⟨_, List.getElem?_eq_getElem hlt⟩
      have hxn := hS x (List.mem_of_getElem? hx)
      repeat (first | refine W.seq ?_ | refine W.block ?_ | refine W.skip ?_ | refine W.exit ?_ | refine W.region tab_ok 0 (by decide) (exec_run (by simp only [exa, beq_self_eq_true, ByteArray.size, Nat.reduceAdd, Nat.reduceLeDiff, Nat.reduceEqDiff, Nat.reduceMul, Int.reduceToNat, reduceIte, Int.reduceLE, Int.reduceNeg, at_map hx, cN, Int.toNat_natCast, List.length_map, hlt, and_self]; rfl)) ?_)
      refine W.regionK tab_ok 0 (by decide) ?_
      refine runk_split 2 (by simp only [exa, beq_self_eq_true, ByteArray.size, Nat.reduceAdd, Nat.reduceLeDiff, Nat.reduceEqDiff, Nat.reduceMul, Int.reduceToNat, reduceIte, Int.reduceLE, Int.reduceNeg]; rfl) ?_
      refine runk_callE (D := []) rfl rfl rfl rfl rfl (fun j hj => by simp at hj) (by simp) (cvs_cons cv_refl (cvs_cons cv_refl cvs_nil)) (addN_ok n (by omega) _ x hxn _ 300000 100012 100010 (fun d => by simp only [upd_app, mem_nil_app]; repeat (rw [if_neg (by omega)])) rfl rfl) ?_
      simp only [killL, putS, upd_upd]
      refine runk_exec (by simp only [exa, beq_self_eq_true, ByteArray.size, Nat.reduceAdd, Nat.reduceLeDiff, Nat.reduceEqDiff, Nat.reduceMul, Int.reduceToNat, reduceIte, Int.reduceLE, Int.reduceNeg]; rfl) ?_
      repeat (first | refine W.seq ?_ | refine W.block ?_ | refine W.skip ?_ | refine W.exit ?_ | refine W.region tab_ok 0 (by decide) (exec_run (by simp only [exa, beq_self_eq_true, ByteArray.size, Nat.reduceAdd, Nat.reduceLeDiff, Nat.reduceEqDiff, Nat.reduceMul, Int.reduceToNat, reduceIte, Int.reduceLE, Int.reduceNeg]; rfl)) ?_)
      refine ⟨k + 1, hlt, by omega, ?_⟩
      rw [in_next hx]
      refine le_mk ?sle ?mle ?swf ?mwf (kept_not hkeep) (by rfl)
      case swf => repeat (first | exact swf_top _ | refine swf_upd ?_ (by simp [A.ids, upd_app, setO, wordsO, wrap_succ (show k + 1 < 9223372036854775808 by omega)]))
      case mwf => repeat (first | exact mwf_nil _ | refine mwf_upd ?_ (by simp [A.ids, O.ids, upd_app, setO, wordsO, wrap_succ (show k + 1 < 9223372036854775808 by omega)]))
      case mle => repeat (first | exact mle_nil _ | exact mle_refl _ | refine mle_upd ?_ (by first | rfl | (simp only [upd_app, killM_app, O.kill, A.kill, Nat.reduceEqDiff, reduceIte, Option.map_some, Option.map_none, List.map_cons, List.map_nil, setO, wordsO, wrap_succ (show k + 1 < 9223372036854775808 by omega)]; done)))
      case sle => repeat (first | exact sle_top _ | exact sle_refl _ | refine sle_upd ?_ (by first | rfl | (simp only [upd_app, killS_app, A.kill, entry_zero, entry_succ, Nat.reduceEqDiff, reduceIte, setO, wordsO, wrap_succ (show k + 1 < 9223372036854775808 by omega)]; done)))
    · intro hge
      simp only [decide_eq_false_iff_not, Int.ofNat_lt] at hge
      obtain rfl : k = S.length := by omega
      rw [List.take_length]
      repeat (first | refine W.seq ?_ | refine W.block ?_ | refine W.skip ?_ | refine W.exit ?_ | refine W.region tab_ok 0 (by decide) (exec_run (by simp only [exa, beq_self_eq_true, ByteArray.size, Nat.reduceAdd, Nat.reduceLeDiff, Nat.reduceEqDiff, Nat.reduceMul, Int.reduceToNat, reduceIte, Int.reduceLE, Int.reduceNeg]; rfl)) ?_)
      refine W.loop (ι := List Nat × (Nat → Bool)) (fun i => ⟨upd (upd (upd (fun _ => .top) 8 (.ptr 100012 0)) 9 (.c (.sl (tabC E n)))) 10 (.own 200),
          upd (upd (upd Mem.nil 200 (some (.mrow 3 1 (i.1.map cN)))) 100012 (some (setO n 100010))) 100010 (some (wordsO n i.2))⟩) (fun i => RInv E S n i.1 i.2 ∧ left i.2 n + i.1.length ≤ S.length + n) (fun i => left i.2 n + i.1.length) (S, fun i => decide (i ∈ S)) ?start2
          ⟨⟨fun i hi => hS i (by simpa using hi), fun i hi => by simpa using hi, fun i hi => .here (by simpa using hi), fun s hs => by simpa using hs, fun i hi => .inl (by simpa using hi)⟩, by have := left_le (fun i => decide (i ∈ S)) n; simp only; omega⟩ ?round2
      case start2 =>
        refine le_mk ?sle ?mle ?swf ?mwf (kept_not hkeep) (by rfl)
        case swf => repeat (first | exact swf_top _ | refine swf_upd ?_ (by simp [A.ids, upd_app, setO, wordsO]))
        case mwf => repeat (first | exact mwf_nil _ | refine mwf_upd ?_ (by simp [A.ids, O.ids, upd_app, setO, wordsO]))
        case mle => repeat (first | exact mle_nil _ | exact mle_refl _ | refine mle_upd ?_ (by first | rfl | (simp only [upd_app, killM_app, O.kill, A.kill, Nat.reduceEqDiff, reduceIte, Option.map_some, Option.map_none, List.map_cons, List.map_nil, setO, wordsO]; done)))
        case sle => repeat (first | exact sle_top _ | exact sle_refl _ | refine sle_upd ?_ (by first | rfl | (simp only [upd_app, killS_app, A.kill, entry_zero, entry_succ, Nat.reduceEqDiff, reduceIte, setO, wordsO]; done)))
      case round2 =>
        rintro ⟨ws, Q⟩ ⟨hinv, hbd⟩
        simp only at hinv hbd
        rcases list_last ws with rfl | ⟨ws, i, rfl⟩
        · repeat (first | refine W.seq ?_ | refine W.block ?_ | refine W.skip ?_ | refine W.exit ?_ | refine W.region tab_ok 0 (by decide) (exec_run (by simp only [exa, beq_self_eq_true, ByteArray.size, Nat.reduceAdd, Nat.reduceLeDiff, Nat.reduceEqDiff, Nat.reduceMul, Int.reduceToNat, reduceIte, Int.reduceLE, Int.reduceNeg]; rfl)) ?_)
          refine W.cond rfl ?_ ?_
          · intro h; simp at h
          · intro _
            repeat (first | refine W.seq ?_ | refine W.block ?_ | refine W.skip ?_ | refine W.exit ?_ | refine W.region tab_ok 0 (by decide) (exec_run (by simp only [exa, beq_self_eq_true, ByteArray.size, Nat.reduceAdd, Nat.reduceLeDiff, Nat.reduceEqDiff, Nat.reduceMul, Int.reduceToNat, reduceIte, Int.reduceLE, Int.reduceNeg]; rfl)) ?_)
            refine W.regionK tab_ok 0 (by decide) ?_
            refine runk_split 1 (by simp only [exa, beq_self_eq_true, ByteArray.size, Nat.reduceAdd, Nat.reduceLeDiff, Nat.reduceEqDiff, Nat.reduceMul, Int.reduceToNat, reduceIte, Int.reduceLE, Int.reduceNeg]; rfl) ?_
            refine runk_callE (D := []) rfl rfl rfl rfl rfl (fun j hj => by simp at hj) (by simp) (cvs_cons cv_refl cvs_nil) (list_ok n (by omega) Q hinv.lt _ 300000 100012 100010 (fun d => by simp only [upd_app, mem_nil_app]; repeat (rw [if_neg (by omega)])) rfl rfl) ?_
            simp only [killL, putS, upd_upd]
            refine runk_exec (by simp only [exa, beq_self_eq_true, ByteArray.size, Nat.reduceAdd, Nat.reduceLeDiff, Nat.reduceEqDiff, Nat.reduceMul, Int.reduceToNat, reduceIte, Int.reduceLE, Int.reduceNeg]; rfl) ?_
            repeat (first | refine W.seq ?_ | refine W.block ?_ | refine W.skip ?_ | refine W.exit ?_ | refine W.region tab_ok 0 (by decide) (exec_run (by simp only [exa, beq_self_eq_true, ByteArray.size, Nat.reduceAdd, Nat.reduceLeDiff, Nat.reduceEqDiff, Nat.reduceMul, Int.reduceToNat, reduceIte, Int.reduceLE, Int.reduceNeg]; rfl)) ?_)
            refine W.ret ⟨.inr rfl, by rfl, ?_⟩
            simp only [Tryd.f17, resA, resOne, toT, fin, exa, beq_self_eq_true, ByteArray.size, Nat.reduceAdd, Nat.reduceLeDiff, Nat.reduceEqDiff, Nat.reduceMul, Int.reduceToNat, reduceIte, Int.reduceLE, Int.reduceNeg]
            rw [reachB_of (hinv.done)]; rfl
        · have hbl : ws.length + 1 ≤ S.length + n := by simp only [List.length_append, List.length_cons, List.length_nil] at hbd; omega
          have hi : i < n := hinv.lt i (hinv.sub i (by simp))
          have hw1 := wrap_last (k := ws.length) (by omega)
          have hle : ws.length ≤ ws.length + 1 := by omega
          repeat (first | refine W.seq ?_ | refine W.block ?_ | refine W.skip ?_ | refine W.exit ?_ | refine W.region tab_ok 0 (by decide) (exec_run (by simp only [exa, beq_self_eq_true, ByteArray.size, Nat.reduceAdd, Nat.reduceLeDiff, Nat.reduceEqDiff, Nat.reduceMul, Int.reduceToNat, reduceIte, Int.reduceLE, Int.reduceNeg, List.length_map, List.length_append]; rfl)) ?_)
          refine W.cond rfl ?_ ?_
          · intro _
            repeat (first | refine W.seq ?_ | refine W.block ?_ | refine W.skip ?_ | refine W.exit ?_ | refine W.region tab_ok 0 (by decide) (exec_run (by simp only [exa, beq_self_eq_true, ByteArray.size, Nat.reduceAdd, Nat.reduceLeDiff, Nat.reduceEqDiff, Nat.reduceMul, Int.reduceToNat, reduceIte, Int.reduceLE, Int.reduceNeg, List.length_map, List.length_append, hw1, last_at, cN, Int.toNat_natCast, Nat.lt_succ_self, and_self, Nat.zero_le, hle, tabN_at hi, hi, tabC_len]; rfl)) ?_)
            refine W.rewin 10 200 (by decide) rfl (by simp only [exa, beq_self_eq_true, ByteArray.size, Nat.reduceAdd, Nat.reduceLeDiff, Nat.reduceEqDiff, Nat.reduceMul, Int.reduceToNat, reduceIte, Int.reduceLE, Int.reduceNeg]; rfl) (by simp only [List.length_map, List.length_append, List.length_cons, List.length_nil]; omega) (nokeep hkeep) ?_
            refine W.loop (ι := Nat × List Nat × (Nat → Bool)) (fun x => ⟨upd (upd (upd (upd (upd (upd (fun _ => .top) 8 (.ptr 100012 0)) 9 (.c (.sl (tabC E n)))) 10 (.own 200)) 60 (.c (.sl ((sortN E i).map cN)))) 61 (.c (.int .i64 (sortN E i).length))) 62 (.c (.int .i64 x.1)),
                upd (upd (upd Mem.nil 200 (some (.mrow 3 1 (x.2.1.map cN)))) 100012 (some (setO n 100010))) 100010 (some (wordsO n x.2.2))⟩)
              (fun x => x.1 ≤ (sortN E i).length ∧ RMid E S n x.2.1 x.2.2 i ((sortN E i).drop x.1) ∧ left x.2.2 n + x.2.1.length = left Q n + ws.length) (fun x => (sortN E i).length - x.1) (0, ws, Q) ?start3 ⟨Nat.zero_le _, hinv.take (fun j hj => mem_sortN.2 hj), rfl⟩ ?round3
            case start3 =>
              refine le_mk ?sle ?mle ?swf ?mwf (kept_not hkeep) (by rfl)
              case swf => repeat (first | exact swf_top _ | refine swf_upd ?_ (by simp [A.ids, upd_app, setO, wordsO, take_last]))
              case mwf => repeat (first | exact mwf_nil _ | refine mwf_upd ?_ (by simp [A.ids, O.ids, upd_app, setO, wordsO, take_last]))
              case mle => repeat (first | exact mle_nil _ | exact mle_refl _ | refine mle_upd ?_ (by first | rfl | (simp only [upd_app, killM_app, O.kill, A.kill, Nat.reduceEqDiff, reduceIte, Option.map_some, Option.map_none, List.map_cons, List.map_nil, setO, wordsO, take_last]; done)))
              case sle => repeat (first | exact sle_top _ | exact sle_refl _ | refine sle_upd ?_ (by first | rfl | (simp only [upd_app, killS_app, A.kill, entry_zero, entry_succ, Nat.reduceEqDiff, reduceIte, setO, wordsO, take_last]; done)))
            case round3 =>
              rintro ⟨j, vs, Q2⟩ ⟨hj, hmid, hcnt⟩
              simp only at hj hmid hcnt
              have hsn := sortN_len E i
              repeat (first | refine W.seq ?_ | refine W.block ?_ | refine W.skip ?_ | refine W.exit ?_ | refine W.region tab_ok 0 (by decide) (exec_run (by simp only [exa, beq_self_eq_true, ByteArray.size, Nat.reduceAdd, Nat.reduceLeDiff, Nat.reduceEqDiff, Nat.reduceMul, Int.reduceToNat, reduceIte, Int.reduceLE, Int.reduceNeg]; rfl)) ?_)
              refine W.cond rfl ?_ ?_
              · intro hlt
                simp only [decide_eq_true_eq, Int.ofNat_lt] at hlt
                obtain ⟨x, hx⟩ : ∃ x, (sortN E i)[j]? = some x := ⟨_, List.getElem?_eq_getElem hlt⟩
                have hedge : (i, x) ∈ E := mem_sortN.1 (List.mem_of_getElem? hx)
                have hxn : x < n := (hE _ hedge).2
                have hdrop : (sortN E i).drop j = x :: (sortN E i).drop (j + 1) := by
                  rw [List.drop_eq_getElem_cons hlt]
                  congr 1
                  rw [List.getElem?_eq_getElem hlt] at hx; exact Option.some.inj hx
                rw [hdrop] at hmid
                repeat (first | refine W.seq ?_ | refine W.block ?_ | refine W.skip ?_ | refine W.exit ?_ | refine W.region tab_ok 0 (by decide) (exec_run (by simp only [exa, beq_self_eq_true, ByteArray.size, Nat.reduceAdd, Nat.reduceLeDiff, Nat.reduceEqDiff, Nat.reduceMul, Int.reduceToNat, reduceIte, Int.reduceLE, Int.reduceNeg, at_map hx, cN]; rfl)) ?_)
                refine W.regionK tab_ok 0 (by decide) ?_
                refine runk_split 2 (by simp only [exa, beq_self_eq_true, ByteArray.size, Nat.reduceAdd, Nat.reduceLeDiff, Nat.reduceEqDiff, Nat.reduceMul, Int.reduceToNat, reduceIte, Int.reduceLE, Int.reduceNeg]; rfl) ?_
                refine runk_callE (D := []) rfl rfl rfl rfl rfl (fun j hj => by simp at hj) (by simp) (cvs_cons cv_refl (cvs_cons cv_refl cvs_nil)) (addN_ok n (by omega) Q2 x hxn _ 300000 100012 100010 (fun d => by simp only [upd_app, mem_nil_app]; repeat (rw [if_neg (by omega)])) rfl rfl) ?_
                simp only [killL, putS, upd_upd]
                refine runk_exec (by simp only [exa, beq_self_eq_true, ByteArray.size, Nat.reduceAdd, Nat.reduceLeDiff, Nat.reduceEqDiff, Nat.reduceMul, Int.reduceToNat, reduceIte, Int.reduceLE, Int.reduceNeg]; rfl) ?_
                refine W.cond rfl ?_ ?_
                · intro hq
                  have hq : Q2 x = false := by simpa using hq
                  have hm := left_mark Q2 x hq n
                  rw [if_pos hxn] at hm
                  repeat (first | refine W.seq ?_ | refine W.block ?_ | refine W.skip ?_ | refine W.exit ?_ | refine W.region tab_ok 0 (by decide) (exec_run (by simp only [exa, beq_self_eq_true, ByteArray.size, Nat.reduceAdd, Nat.reduceLeDiff, Nat.reduceEqDiff, Nat.reduceMul, Int.reduceToNat, reduceIte, Int.reduceLE, Int.reduceNeg]; rfl)) ?_)
                  refine W.regionK tab_ok 0 (by decide) ?_
                  refine runk_split 3 (by simp only [exa, beq_self_eq_true, ByteArray.size, Nat.reduceAdd, Nat.reduceLeDiff, Nat.reduceEqDiff, Nat.reduceMul, Int.reduceToNat, reduceIte, Int.reduceLE, Int.reduceNeg]; rfl) ?_
                  refine runk_appendM tab_ok 200 rfl rfl rfl rfl rfl rfl (by simp only [exa, beq_self_eq_true, ByteArray.size, Nat.reduceAdd, Nat.reduceLeDiff, Nat.reduceEqDiff, Nat.reduceMul, Int.reduceToNat, reduceIte, Int.reduceLE, Int.reduceNeg]) (by simp only [exa, beq_self_eq_true, ByteArray.size, Nat.reduceAdd, Nat.reduceLeDiff, Nat.reduceEqDiff, Nat.reduceMul, Int.reduceToNat, reduceIte, Int.reduceLE, Int.reduceNeg]; rfl) (by first | rfl | (simp only [exa, beq_self_eq_true, ByteArray.size, Nat.reduceAdd, Nat.reduceLeDiff, Nat.reduceEqDiff, Nat.reduceMul, Int.reduceToNat, reduceIte, Int.reduceLE, Int.reduceNeg]; rfl)) rfl rfl rfl rfl (nokeep hkeep) (fun z hz => by simp at hz; subst hz; rfl) (by simp only [List.length_map, List.length_cons, List.length_nil]; omega) (by decide) ?_
                  refine runk_exec (by simp only [exa, beq_self_eq_true, ByteArray.size, Nat.reduceAdd, Nat.reduceLeDiff, Nat.reduceEqDiff, Nat.reduceMul, Int.reduceToNat, reduceIte, Int.reduceLE, Int.reduceNeg]; rfl) ?_
                  repeat (first | refine W.seq ?_ | refine W.block ?_ | refine W.skip ?_ | refine W.exit ?_ | refine W.region tab_ok 0 (by decide) (exec_run (by simp only [exa, beq_self_eq_true, ByteArray.size, Nat.reduceAdd, Nat.reduceLeDiff, Nat.reduceEqDiff, Nat.reduceMul, Int.reduceToNat, reduceIte, Int.reduceLE, Int.reduceNeg]; rfl)) ?_)
                  refine ⟨(j + 1, vs ++ [x], G.mark Q2 x), ⟨hlt, hmid.new hxn hedge, by simp only [List.length_append, List.length_cons, List.length_nil]; omega⟩, by simp only; omega, ?_⟩
                  refine le_mk ?sle ?mle ?swf ?mwf (kept_not hkeep) (by rfl)
                  case swf => repeat (first | exact swf_top _ | refine swf_upd ?_ (by simp [A.ids, upd_app, setO, wordsO, wrap_succ (show j + 1 < 9223372036854775808 by omega), List.map_append, cN]))
                  case mwf => repeat (first | exact mwf_nil _ | refine mwf_upd ?_ (by simp [A.ids, O.ids, upd_app, setO, wordsO, wrap_succ (show j + 1 < 9223372036854775808 by omega), List.map_append, cN]))
                  case mle => repeat (first | exact mle_nil _ | exact mle_refl _ | refine mle_upd ?_ (by first | rfl | (simp only [upd_app, killM_app, O.kill, A.kill, Nat.reduceEqDiff, reduceIte, Option.map_some, Option.map_none, List.map_cons, List.map_nil, setO, wordsO, wrap_succ (show j + 1 < 9223372036854775808 by omega), List.map_append, cN]; done)))
                  case sle => repeat (first | exact sle_top _ | exact sle_refl _ | refine sle_upd ?_ (by first | rfl | (simp only [upd_app, killS_app, A.kill, entry_zero, entry_succ, Nat.reduceEqDiff, reduceIte, setO, wordsO, wrap_succ (show j + 1 < 9223372036854775808 by omega), List.map_append, cN]; done)))
                · intro hq
                  have hq : Q2 x = true := by simpa using hq
                  have hm : G.mark Q2 x = Q2 := by
                    funext y
                    simp only [G.mark]
                    by_cases e : y = x
                    · subst e; rw [hq]; rfl
                    · simp [e]
                  repeat (first | refine W.seq ?_ | refine W.block ?_ | refine W.skip ?_ | refine W.exit ?_ | refine W.region tab_ok 0 (by decide) (exec_run (by simp only [exa, beq_self_eq_true, ByteArray.size, Nat.reduceAdd, Nat.reduceLeDiff, Nat.reduceEqDiff, Nat.reduceMul, Int.reduceToNat, reduceIte, Int.reduceLE, Int.reduceNeg]; rfl)) ?_)
                  refine ⟨(j + 1, vs, Q2), ⟨hlt, hmid.old hq, hcnt⟩, by simp only; omega, ?_⟩
                  rw [hm]
                  refine le_mk ?sle ?mle ?swf ?mwf (kept_not hkeep) (by rfl)
                  case swf => repeat (first | exact swf_top _ | refine swf_upd ?_ (by simp [A.ids, upd_app, setO, wordsO, wrap_succ (show j + 1 < 9223372036854775808 by omega)]))
                  case mwf => repeat (first | exact mwf_nil _ | refine mwf_upd ?_ (by simp [A.ids, O.ids, upd_app, setO, wordsO, wrap_succ (show j + 1 < 9223372036854775808 by omega)]))
                  case mle => repeat (first | exact mle_nil _ | exact mle_refl _ | refine mle_upd ?_ (by first | rfl | (simp only [upd_app, killM_app, O.kill, A.kill, Nat.reduceEqDiff, reduceIte, Option.map_some, Option.map_none, List.map_cons, List.map_nil, setO, wordsO, wrap_succ (show j + 1 < 9223372036854775808 by omega)]; done)))
                  case sle => repeat (first | exact sle_top _ | exact sle_refl _ | refine sle_upd ?_ (by first | rfl | (simp only [upd_app, killS_app, A.kill, entry_zero, entry_succ, Nat.reduceEqDiff, reduceIte, setO, wordsO, wrap_succ (show j + 1 < 9223372036854775808 by omega)]; done)))
              · intro hge
                simp only [decide_eq_false_iff_not, Int.ofNat_lt] at hge
                rw [List.drop_of_length_le (by omega)] at hmid
                repeat (first | refine W.seq ?_ | refine W.block ?_ | refine W.skip ?_ | refine W.exit ?_ | refine W.region tab_ok 0 (by decide) (exec_run (by simp only [exa, beq_self_eq_true, ByteArray.size, Nat.reduceAdd, Nat.reduceLeDiff, Nat.reduceEqDiff, Nat.reduceMul, Int.reduceToNat, reduceIte, Int.reduceLE, Int.reduceNeg]; rfl)) ?_)
                refine ⟨(vs, Q2), ⟨hmid.done, by simp only [List.length_append, List.length_cons, List.length_nil] at hbd ⊢; omega⟩, by simp only [List.length_append, List.length_cons, List.length_nil]; omega, ?_⟩
                refine le_mk ?sle ?mle ?swf ?mwf (kept_not hkeep) (by rfl)
                case swf => repeat (first | exact swf_top _ | refine swf_upd ?_ (by simp [A.ids, upd_app, setO, wordsO]))
                case mwf => repeat (first | exact mwf_nil _ | refine mwf_upd ?_ (by simp [A.ids, O.ids, upd_app, setO, wordsO]))
                case mle => repeat (first | exact mle_nil _ | exact mle_refl _ | refine mle_upd ?_ (by first | rfl | (simp only [upd_app, killM_app, O.kill, A.kill, Nat.reduceEqDiff, reduceIte, Option.map_some, Option.map_none, List.map_cons, List.map_nil, setO, wordsO]; done)))
                case sle => repeat (first | exact sle_top _ | exact sle_refl _ | refine sle_upd ?_ (by first | rfl | (simp only [upd_app, killS_app, A.kill, entry_zero, entry_succ, Nat.reduceEqDiff, reduceIte, setO, wordsO]; done)))
          · intro h; simp at h
/-- What Reach answers. -/
noncomputable def reachR (n : Int) (l : List (Int × Int)) (src : List Int) : List (Bool × List C) :=
  if chkB n l = false then [(false, [.sl []]), (false, [.int .i64 150])]
  else if src.any (badI n) = true then [(false, [.sl []]), (false, [.int .i64 1])]
  else [(false, [.sl ((reachL (l.map fun e => (e.1.toNat, e.2.toNat)) (src.map Int.toNat) n.toNat).map cN)]), (false, [.int .i64 0])]
theorem chk_good {n : Int} {l : List (Int × Int)} (h : chkB n l = true) : 0 ≤ n ∧ n ≤ 100000 ∧ ∀ e ∈ l, 0 ≤ e.1 ∧ e.1 < n ∧ 0 ≤ e.2 ∧ e.2 < n := by
  simp only [chkB, Bool.not_eq_true', Bool.or_eq_false_iff, decide_eq_false_iff_not, List.any_eq_false] at h
  obtain ⟨⟨h1, h2⟩, h3⟩ := h
  refine ⟨by omega, by omega, fun e he => ?_⟩
  have := h3 e he
  simp only [badE, Bool.or_eq_true, decide_eq_true_eq, not_or] at this
  omega
theorem chk_parts {n : Int} {l : List (Int × Int)} (h : chkB n l = true) : ∃ (N : Nat) (E : List (Nat × Nat)), n = N ∧ l = E.map castE ∧ N ≤ 100000 ∧ (∀ e ∈ E, e.1 < N ∧ e.2 < N) ∧ n.toNat = N ∧ (l.map fun e => (e.1.toNat, e.2.toNat)) = E ∧ E.length = l.length := by
  obtain ⟨h1, h2, h3⟩ := chk_good h
  refine ⟨n.toNat, l.map fun e => (e.1.toNat, e.2.toNat), by omega, ?_, by omega, fun e he => ?_, rfl, rfl, by simp⟩
  · rw [List.map_map]
    refine ((List.map_congr_left fun e he => ?_).trans (List.map_id _)).symm
    have := h3 e he
    show castE (e.1.toNat, e.2.toNat) = e
    obtain ⟨a, b⟩ := e
    simp only at this
    simp only [castE, Prod.mk.injEq]
    omega
  · obtain ⟨x, hx, rfl⟩ := List.mem_map.1 he
    have := h3 x hx
    simp only
    omega
theorem any_parts {n : Nat} {l : List Int} (h : l.any (badI n) = false) : ∃ S : List Nat, l = S.map (fun i : Nat => (i : Int)) ∧ (∀ i ∈ S, i < n) ∧ l.map Int.toNat = S ∧ S.length = l.length := by
  rw [List.any_eq_false] at h
  have h2 : ∀ x ∈ l, 0 ≤ x ∧ x < n := fun x hx => by
    have := h x hx
    simp only [badI, Bool.or_eq_true, decide_eq_true_eq, not_or] at this
    omega
  refine ⟨l.map Int.toNat, ?_, fun i hi => ?_, rfl, by simp⟩
  · rw [List.map_map]
    refine ((List.map_congr_left fun z hz => ?_).trans (List.map_id _)).symm
    have := h2 z hz
    show ((z.toNat : Nat) : Int) = z
    omega
  · obtain ⟨z, hz, rfl⟩ := List.mem_map.1 hi
    have := h2 z hz
    omega
theorem reach_ok (n : Int) (l : List (Int × Int)) (hl : l.length ≤ 1000000) (src : List Int) (hsl : src.length ≤ 1000000000000) (m : Mem) :
    COk Tryd.prog 17 [.c (.int .i64 n), .c (.sl (l.map cE)), .c (.sl (src.map cZ))] m (.tup (reachR n l src)) := by
  cases hc : chkB n l with
  | false =>
    have hr : reachR n l src = [(false, [.sl []]), (false, [.int .i64 150])] := by unfold reachR; rw [if_pos hc]
    rw [hr]
    have hk := check_ok n l (by omega)
    rw [hc] at hk
    refine (ok_pure tab_ok Tryd.func17 (by kernel_rfl) rfl rfl (by rfl) (by rfl) (by rfl) (fun R hkeep => ?_) m)
    repeat (first | refine W.seq ?_ | refine W.block ?_ | refine W.skip ?_ | refine W.exit ?_ | refine W.region tab_ok 0 (by decide) (exec_run (by simp only [exa, beq_self_eq_true, ByteArray.size, Nat.reduceAdd, Nat.reduceLeDiff, Nat.reduceEqDiff, Nat.reduceMul, Int.reduceToNat, reduceIte, Int.reduceLE, Int.reduceNeg]; rfl)) ?_)
    refine W.regionK tab_ok 0 (by decide) ?_
    refine runk_split 2 (by simp only [exa, beq_self_eq_true, ByteArray.size, Nat.reduceAdd, Nat.reduceLeDiff, Nat.reduceEqDiff, Nat.reduceMul, Int.reduceToNat, reduceIte, Int.reduceLE, Int.reduceNeg]; rfl) ?_
    refine runk_call rfl rfl rfl rfl rfl (by simp) (cvs_cons cv_refl (cvs_cons cv_refl cvs_nil)) (hk _) ?_
    refine runk_exec (by simp only [exa, beq_self_eq_true, ByteArray.size, Nat.reduceAdd, Nat.reduceLeDiff, Nat.reduceEqDiff, Nat.reduceMul, Int.reduceToNat, reduceIte, Int.reduceLE, Int.reduceNeg, errG, Bool.false_eq_true]; rfl) ?_
    refine W.cond rfl ?_ ?_
    · intro _
      repeat (first | refine W.seq ?_ | refine W.block ?_ | refine W.skip ?_ | refine W.exit ?_ | refine W.region tab_ok 0 (by decide) (exec_run (by simp only [exa, beq_self_eq_true, ByteArray.size, Nat.reduceAdd, Nat.reduceLeDiff, Nat.reduceEqDiff, Nat.reduceMul, Int.reduceToNat, reduceIte, Int.reduceLE, Int.reduceNeg]; rfl)) ?_)
      refine W.ret ⟨.inr rfl, by rfl, ?_⟩
      simp only [Tryd.f17, resA, resOne, toT, fin, exa, beq_self_eq_true, ByteArray.size, Nat.reduceAdd, Nat.reduceLeDiff, Nat.reduceEqDiff, Nat.reduceMul, Int.reduceToNat, reduceIte, Int.reduceLE, Int.reduceNeg]
    · intro h; cases h
  | true =>
    obtain ⟨N, E, rfl, rfl, hN, hE, e1, e2, e3⟩ := chk_parts hc
    cases hs : src.any (badI N) with
    | true =>
      have hr : reachR N (E.map castE) src = [(false, [.sl []]), (false, [.int .i64 1])] := by unfold reachR; rw [if_neg (by simp [hc]), if_pos hs]
      rw [hr, cE_cast]
      have hk := among_ok N src hsl
      rw [hs] at hk
      refine (ok_pure tab_ok Tryd.func17 (by kernel_rfl) rfl rfl (by rfl) (by rfl) (by rfl) (fun R hkeep => ?_) m)
      repeat (first | refine W.seq ?_ | refine W.block ?_ | refine W.skip ?_ | refine W.exit ?_ | refine W.region tab_ok 0 (by decide) (exec_run (by simp only [exa, beq_self_eq_true, ByteArray.size, Nat.reduceAdd, Nat.reduceLeDiff, Nat.reduceEqDiff, Nat.reduceMul, Int.reduceToNat, reduceIte, Int.reduceLE, Int.reduceNeg]; rfl)) ?_)
      refine W.regionK tab_ok 0 (by decide) ?_
      refine runk_split 2 (by simp only [exa, beq_self_eq_true, ByteArray.size, Nat.reduceAdd, Nat.reduceLeDiff, Nat.reduceEqDiff, Nat.reduceMul, Int.reduceToNat, reduceIte, Int.reduceLE, Int.reduceNeg]; rfl) ?_
      refine runk_call rfl rfl rfl rfl rfl (by simp) (cvs_cons cv_refl (cvs_cons cv_refl cvs_nil)) (checkN_ok hN (by omega) hE _) ?_
      refine runk_exec (by simp only [exa, beq_self_eq_true, ByteArray.size, Nat.reduceAdd, Nat.reduceLeDiff, Nat.reduceEqDiff, Nat.reduceMul, Int.reduceToNat, reduceIte, Int.reduceLE, Int.reduceNeg]; rfl) ?_
      refine W.cond rfl ?_ ?_
      · intro h; cases h
      intro _
      repeat (first | refine W.seq ?_ | refine W.block ?_ | refine W.skip ?_ | refine W.exit ?_ | refine W.region tab_ok 0 (by decide) (exec_run (by simp only [exa, beq_self_eq_true, ByteArray.size, Nat.reduceAdd, Nat.reduceLeDiff, Nat.reduceEqDiff, Nat.reduceMul, Int.reduceToNat, reduceIte, Int.reduceLE, Int.reduceNeg]; rfl)) ?_)
      refine W.regionK tab_ok 0 (by decide) ?_
      refine runk_split 2 (by simp only [exa, beq_self_eq_true, ByteArray.size, Nat.reduceAdd, Nat.reduceLeDiff, Nat.reduceEqDiff, Nat.reduceMul, Int.reduceToNat, reduceIte, Int.reduceLE, Int.reduceNeg]; rfl) ?_
      refine runk_call rfl rfl rfl rfl rfl (by simp) (cvs_cons cv_refl (cvs_cons cv_refl cvs_nil)) (hk _) ?_
      refine runk_exec (by simp only [exa, beq_self_eq_true, ByteArray.size, Nat.reduceAdd, Nat.reduceLeDiff, Nat.reduceEqDiff, Nat.reduceMul, Int.reduceToNat, reduceIte, Int.reduceLE, Int.reduceNeg]; rfl) ?_
      refine W.cond rfl ?_ ?_
      · intro _
        repeat (first | refine W.seq ?_ | refine W.block ?_ | refine W.skip ?_ | refine W.exit ?_ | refine W.region tab_ok 0 (by decide) (exec_run (by simp only [exa, beq_self_eq_true, ByteArray.size, Nat.reduceAdd, Nat.reduceLeDiff, Nat.reduceEqDiff, Nat.reduceMul, Int.reduceToNat, reduceIte, Int.reduceLE, Int.reduceNeg]; rfl)) ?_)
        refine W.ret ⟨.inr rfl, by rfl, ?_⟩
        simp only [Tryd.f17, resA, resOne, toT, fin, exa, beq_self_eq_true, ByteArray.size, Nat.reduceAdd, Nat.reduceLeDiff, Nat.reduceEqDiff, Nat.reduceMul, Int.reduceToNat, reduceIte, Int.reduceLE, Int.reduceNeg]
      · intro h; cases h
    | false =>
      obtain ⟨S, rfl, hS, e4, e5⟩ := any_parts hs
      have hr : reachR N (E.map castE) (S.map fun i : Nat => (i : Int)) = [(false, [.sl ((reachL E S N).map cN)]), (false, [.int .i64 0])] := by
        unfold reachR; rw [if_neg (by simp [hc]), if_neg (by simp [hs]), e1, e2, e4]
      rw [hr, cE_cast, cZ_cast]
      exact reachG_ok N hN E (by omega) hE S (by omega) hS m
end V
end Go.Proofs.YtknmcmfdbfhadaaDoor
end
section
/- graph.Path: the first of the shortest ways. -/
set_option linter.unusedVariables false
set_option linter.unusedSimpArgs false
namespace Go.Proofs.YtknmcmfdbfhadaaDoor
namespace V
open Go.RowKit G
/-- A number for each node. -/
def rowF (n : Nat) (F : Nat → Nat) : List (List C) := (List.range n).map fun i => [.int .i64 (F i : Nat)]
theorem rowF_len (n : Nat) (F : Nat → Nat) : (rowF n F).length = n := by simp [rowF]
theorem rowF_at {n k : Nat} {F : Nat → Nat} (h : k < n) : (rowF n F)[k]? = some [.int .i64 (F k : Nat)] := by simp [rowF, h]
theorem rowF_set {n k v : Nat} {F : Nat → Nat} : (rowF n F).set k [.int .i64 (v : Int)] = rowF n (setF F k v) := by
  refine List.ext_getElem? fun i => ?_
  rw [List.getElem?_set, rowF_len]
  by_cases hi : i < n
  · rw [rowF_at hi, rowF_at hi]
    by_cases e : k = i
    · subst e; rw [if_pos rfl, if_pos hi]; simp [setF]
    · rw [if_neg e]; simp [setF, Ne.symm e]
  · have h1 : (rowF n F)[i]? = none := by rw [List.getElem?_eq_none]; rw [rowF_len]; omega
    have h2 : (rowF n (setF F k v))[i]? = none := by rw [List.getElem?_eq_none]; rw [rowF_len]; omega
    rw [h1, h2]
    split
    · rw [if_neg (by omega)]
    · rfl
theorem rowF_set1 {n k : Nat} {F : Nat → Nat} : (rowF n F).set k [.int .i64 1] = rowF n (setF F k 1) := rowF_set (v := 1)
theorem rep_rowF (n : Nat) : List.replicate n [C.int .i64 0] = rowF n (fun _ => 0) := by
  refine List.ext_getElem? fun i => ?_
  by_cases hi : i < n
  · rw [rowF_at hi]; simp [hi]
  · rw [List.getElem?_eq_none (by simpa using hi), List.getElem?_eq_none (by rw [rowF_len]; omega)]
def swapE (E : List (Nat × Nat)) : List (Nat × Nat) := E.map fun e => (e.2, e.1)
theorem mem_swap {E : List (Nat × Nat)} {i j : Nat} : (i, j) ∈ swapE E ↔ (j, i) ∈ E := by
  simp only [swapE, List.mem_map, Prod.mk.injEq]
  constructor
  · rintro ⟨⟨a, b⟩, h, rfl, rfl⟩; exact h
  · intro h; exact ⟨_, h, rfl, rfl⟩
theorem swap_lt {E : List (Nat × Nat)} {n : Nat} (hE : ∀ e ∈ E, e.1 < n ∧ e.2 < n) : ∀ e ∈ swapE E, e.1 < n ∧ e.2 < n := fun e he => by
  obtain ⟨a, b⟩ := e
  have := hE _ (mem_swap.1 he)
  exact ⟨this.2, this.1⟩
theorem turnN_ok (E : List (Nat × Nat)) (hlen : E.length ≤ 1000000) (m : Mem) : COk Tryd.prog 11 [.c (.sl (E.map cEd))] m (.c (.sl ((swapE E).map cEd))) := by
  have := turn_ok (E.map castE) (by simp; omega) m
  have e : ((E.map castE).map turnE).map cE = (swapE E).map cEd := by simp [swapE, castE, turnE, cE, cEd, Function.comp_def]
  rwa [cE_cast, e] at this
theorem sortN_up (E : List (Nat × Nat)) (i : Nat) : (sortN E i).Pairwise (· ≤ ·) := by
  have h : (sortL E i).Pairwise (fun a b => leI a b = true) := List.pairwise_mergeSort (fun a b c h1 h2 => by simp only [leI, decide_eq_true_eq] at *; omega) (fun a b => by simp only [leI, Bool.or_eq_true, decide_eq_true_eq]; omega) _
  unfold sortN
  rw [List.pairwise_map]
  refine h.imp fun {a b} hab => ?_
  simp only [leI, decide_eq_true_eq] at hab
  omega
theorem first_least {p : Nat → Bool} {l : List Nat} {k x : Nat} (hl : l.Pairwise (· ≤ ·)) (hx : l[k]? = some x) (hno : (l.take k).any p = false) {y : Nat} (hy : y ∈ l) (hp : p y = true) : x ≤ y := by
  obtain ⟨j, hj⟩ := List.mem_iff_getElem?.1 hy
  have hjl := (List.getElem?_eq_some_iff.1 hj).1
  have hkl := (List.getElem?_eq_some_iff.1 hx).1
  have hjk : k ≤ j := by
    refine Nat.le_of_not_lt fun q => ?_
    have : (l.take k).any p = true := List.any_eq_true.2 ⟨y, List.mem_of_getElem? (i := j) (by rw [List.getElem?_take, if_pos q]; exact hj), hp⟩
    rw [hno] at this; cases this
  rcases Nat.lt_or_ge k j with q | q
  · have := List.pairwise_iff_getElem.1 hl k j hkl hjl q
    rw [(List.getElem?_eq_some_iff.1 hx).2, (List.getElem?_eq_some_iff.1 hj).2] at this
    exact this
  · obtain rfl : j = k := by omega
    rw [hx] at hj; cases hj; exact Nat.le_refl _
theorem idxB_map (p : Nat → Bool) : ∀ l : List Nat, idxB (fun z : Int => p z.toNat) (l.map fun i : Nat => (i : Int)) = idxB p l
  | [] => rfl
  | x :: l => by simp only [List.map_cons, idxB, idxB_map p l, Int.toNat_natCast]
theorem idxN_ok (l : List Nat) (f : FuncId) (caps : List (List C)) (p : Nat → Bool) (hlen : l.length ≤ 1000000000000) (hk : ∀ x ∈ l, ∀ m, COk Tryd.prog f (.c (.int .i64 (x : Int)) :: caps.map A.rptr) m (.c (.bool (p x)))) (m : Mem) : COk Tryd.prog 38 [.c (.sl (l.map cN)), .fnR f caps] m (.c (.int .i64 (idxB p l))) := by
  have := idxInt_ok (l.map fun i : Nat => (i : Int)) f caps (fun z => p z.toNat) (by simpa using hlen) (fun x hx m => by
    obtain ⟨i, hi, rfl⟩ := List.mem_map.1 hx
    simpa using hk i hi m) m
  rwa [cZ_cast, idxB_map] at this
def mF (F : Nat → Nat) : Nat → Bool := fun j => decide (F j ≠ 0)
theorem mF_set {F : Nat → Nat} {k v : Nat} (hv : v ≠ 0) : mF (setF F k v) = G.mark (mF F) k := by
  funext j
  simp only [mF, setF, G.mark]
  by_cases e : j = k
  · subst e; simp [hv]
  · simp [e]
def stepB (F : Nat → Nat) (cur k : Nat) : Bool := decide ((F k : Int) = (F cur : Int) - 1) && decide (0 < F k)
theorem path1_ok (n : Nat) (F : Nat → Nat) (hF : ∀ i, F i ≤ n) (hn : n ≤ 100000) (cur k : Nat) (hc : cur < n) (hk : k < n) (m : Mem) : COk Tryd.prog 39 [.c (.int .i64 k), .rptr [.sl (rowF n F)], .rptr [.int .i64 cur]] m (.c (.bool (stepB F cur k))) := by
  have h0 : (0 : Int) ≤ (k : Int) := by omega
  have h0' : (0 : Int) ≤ (cur : Int) := by omega
  have hw : IntKind.i64.wrap ((F cur : Int) - 1) = (F cur : Int) - 1 := wrap_pred (by have := hF cur; omega)
  refine (ok_pure tab_ok Tryd.func39 (by kernel_rfl) rfl rfl (by rfl) (by rfl) (by rfl) (fun R hkeep => ?_) m)
  repeat (first | refine W.seq ?_ | refine W.block ?_ | refine W.skip ?_ | refine W.exit ?_ | refine W.region tab_ok 0 (by decide) (exec_run (by simp only [exa, beq_self_eq_true, ByteArray.size, Nat.reduceAdd, Nat.reduceLeDiff, Nat.reduceEqDiff, Nat.reduceMul, Int.reduceToNat, reduceIte, Int.reduceLE, Int.reduceNeg]; rfl)) ?_)
  refine W.regionDK tab_ok 0 follows_mixed (by kernel_rfl) (by decide) ?_
  by_cases h1 : (F k : Int) = (F cur : Int) - 1
  · refine runk_exec (by simp only [exa, beq_self_eq_true, ByteArray.size, Nat.reduceAdd, Nat.reduceLeDiff, Nat.reduceEqDiff, Nat.reduceMul, Int.reduceToNat, reduceIte, Int.reduceLE, Int.reduceNeg, rowF_at hc, rowF_at hk, hw, h1, h0, h0', Int.toNat_natCast, rowF_len]; rfl) ?_
    repeat (first | refine W.seq ?_ | refine W.block ?_ | refine W.skip ?_ | refine W.exit ?_ | refine W.region tab_ok 0 (by decide) (exec_run (by simp only [exa, beq_self_eq_true, ByteArray.size, Nat.reduceAdd, Nat.reduceLeDiff, Nat.reduceEqDiff, Nat.reduceMul, Int.reduceToNat, reduceIte, Int.reduceLE, Int.reduceNeg]; rfl)) ?_)
    refine W.ret ⟨.inr rfl, by rfl, ?_⟩
    simp only [Tryd.f39, resA, resOne, toT, fin, exa, beq_self_eq_true, ByteArray.size, Nat.reduceAdd, Nat.reduceLeDiff, Nat.reduceEqDiff, Nat.reduceMul, Int.reduceToNat, reduceIte, Int.reduceLE, Int.reduceNeg]
    simp only [stepB, h1, decide_true, Bool.true_and]
    congr 3
    rw [← h1]
    by_cases q : 0 < F k
    · simp [q]
    · simp [q]
  · refine runk_exec (by simp only [exa, beq_self_eq_true, ByteArray.size, Nat.reduceAdd, Nat.reduceLeDiff, Nat.reduceEqDiff, Nat.reduceMul, Int.reduceToNat, reduceIte, Int.reduceLE, Int.reduceNeg, rowF_at hc, rowF_at hk, hw, h1, h0, h0', Int.toNat_natCast, rowF_len]; rfl) ?_
    repeat (first | refine W.seq ?_ | refine W.block ?_ | refine W.skip ?_ | refine W.exit ?_ | refine W.region tab_ok 0 (by decide) (exec_run (by simp only [exa, beq_self_eq_true, ByteArray.size, Nat.reduceAdd, Nat.reduceLeDiff, Nat.reduceEqDiff, Nat.reduceMul, Int.reduceToNat, reduceIte, Int.reduceLE, Int.reduceNeg]; rfl)) ?_)
    refine W.ret ⟨.inr rfl, by rfl, ?_⟩
    simp only [Tryd.f39, resA, resOne, toT, fin, exa, beq_self_eq_true, ByteArray.size, Nat.reduceAdd, Nat.reduceLeDiff, Nat.reduceEqDiff, Nat.reduceMul, Int.reduceToNat, reduceIte, Int.reduceLE, Int.reduceNeg]
    simp [stepB, h1]
set_option maxHeartbeats 4000000 in
theorem pathG_ok (n : Nat) (hn : n ≤ 100000) (E : List (Nat × Nat)) (hlen : E.length ≤ 1000000) (hE : ∀ e ∈ E, e.1 < n ∧ e.2 < n) (f t : Nat) (hf : f < n) (ht : t < n) (r : List (Bool × List C))
    (hr : (∃ K, Dst E t f K ∧ r = [(false, [.sl ((pathN E t K f).map cN)]), (false, [.int .i64 0])]) ∨ ((¬ ∃ v, G.Way E t f v) ∧ r = [(false, [.sl []]), (false, [.int .i64 4])])) (m : Mem) :
    COk Tryd.prog 22 [.c (.int .i64 n), .c (.sl (E.map cEd)), .c (.int .i64 f), .c (.int .i64 t)] m (.tup r) := by
  have hm1 : n * 8 ≤ 140737488355328 := by omega
  have hm2 : (n : Int) ≤ 9223372036854775807 := by omega
  have hn0 : (0 : Int) ≤ (n : Int) := by omega
  have hf0 : (0 : Int) ≤ (f : Int) := by omega
  have ht0 : (0 : Int) ≤ (t : Int) := by omega
  refine (ok_pure tab_ok Tryd.func22 (by kernel_rfl) rfl rfl (by rfl) (by rfl) (by rfl) (fun R hkeep => ?_) m)
  repeat (first | refine W.seq ?_ | refine W.block ?_ | refine W.skip ?_ | refine W.exit ?_ | refine W.region tab_ok 0 (by decide) (exec_run (by simp only [exa, beq_self_eq_true, ByteArray.size, Nat.reduceAdd, Nat.reduceLeDiff, Nat.reduceEqDiff, Nat.reduceMul, Int.reduceToNat, reduceIte, Int.reduceLE, Int.reduceNeg]; rfl)) ?_)
  refine W.regionK tab_ok 0 (by decide) ?_
  refine runk_split 2 (by simp only [exa, beq_self_eq_true, ByteArray.size, Nat.reduceAdd, Nat.reduceLeDiff, Nat.reduceEqDiff, Nat.reduceMul, Int.reduceToNat, reduceIte, Int.reduceLE, Int.reduceNeg]; rfl) ?_
  refine runk_call rfl rfl rfl rfl rfl (by simp) (cvs_cons cv_refl (cvs_cons cv_refl cvs_nil)) (checkN_ok hn hlen hE _) ?_
  refine runk_exec (by simp only [exa, beq_self_eq_true, ByteArray.size, Nat.reduceAdd, Nat.reduceLeDiff, Nat.reduceEqDiff, Nat.reduceMul, Int.reduceToNat, reduceIte, Int.reduceLE, Int.reduceNeg]; rfl) ?_
  refine W.cond rfl ?_ ?_
  · intro h; cases h
  intro _
  repeat (first | refine W.seq ?_ | refine W.block ?_ | refine W.skip ?_ | refine W.exit ?_ | refine W.region tab_ok 0 (by decide) (exec_run (by simp only [exa, beq_self_eq_true, ByteArray.size, Nat.reduceAdd, Nat.reduceLeDiff, Nat.reduceEqDiff, Nat.reduceMul, Int.reduceToNat, reduceIte, Int.reduceLE, Int.reduceNeg]; rfl)) ?_)
  refine W.regionK tab_ok 0 (by decide) ?_
  refine runk_split 4 (by simp only [exa, beq_self_eq_true, ByteArray.size, Nat.reduceAdd, Nat.reduceLeDiff, Nat.reduceEqDiff, Nat.reduceMul, Int.reduceToNat, reduceIte, Int.reduceLE, Int.reduceNeg]; rfl) ?_
  refine runk_call rfl rfl rfl rfl rfl (by simp) (cvs_cons cv_refl (cvs_cons cv_refl cvs_nil)) (amongN_ok (n := n) (S := [f, t]) (by simp) (by intro i hi; simp at hi; rcases hi with rfl | rfl <;> assumption) _) ?_
  refine runk_exec (by simp only [exa, beq_self_eq_true, ByteArray.size, Nat.reduceAdd, Nat.reduceLeDiff, Nat.reduceEqDiff, Nat.reduceMul, Int.reduceToNat, reduceIte, Int.reduceLE, Int.reduceNeg]; rfl) ?_
  refine W.cond rfl ?_ ?_
  · intro h; cases h
  intro _
  repeat (first | refine W.seq ?_ | refine W.block ?_ | refine W.skip ?_ | refine W.exit ?_ | refine W.region tab_ok 0 (by decide) (exec_run (by simp only [exa, beq_self_eq_true, ByteArray.size, Nat.reduceAdd, Nat.reduceLeDiff, Nat.reduceEqDiff, Nat.reduceMul, Int.reduceToNat, reduceIte, Int.reduceLE, Int.reduceNeg]; rfl)) ?_)
  refine W.regionDK tab_ok 0 follows_mixed (by kernel_rfl) (by decide) ?_
  refine runk_split 4 (by simp only [exa, beq_self_eq_true, ByteArray.size, Nat.reduceAdd, Nat.reduceLeDiff, Nat.reduceEqDiff, Nat.reduceMul, Int.reduceToNat, reduceIte, Int.reduceLE, Int.reduceNeg, hm1, hm2, hn0, Int.toNat_natCast, and_self, Bool.false_eq_true, rep_rowF]; rfl) ?_
  refine runk_call rfl rfl rfl rfl rfl (by simp) (cvs_cons cv_refl cvs_nil) (turnN_ok E hlen _) ?_
  refine runk_split 0 (by simp only [exa, beq_self_eq_true, ByteArray.size, Nat.reduceAdd, Nat.reduceLeDiff, Nat.reduceEqDiff, Nat.reduceMul, Int.reduceToNat, reduceIte, Int.reduceLE, Int.reduceNeg]; rfl) ?_
  refine runk_call rfl rfl rfl rfl rfl (by simp) (cvs_cons cv_refl (cvs_cons cv_refl cvs_nil)) (heads_ok n hn (swapE E) (by simpa [swapE] using hlen) (swap_lt hE) _) ?_
  refine runk_exec (by simp only [exa, beq_self_eq_true, ByteArray.size, Nat.reduceAdd, Nat.reduceLeDiff, Nat.reduceEqDiff, Nat.reduceMul, Int.reduceToNat, reduceIte, Int.reduceLE, Int.reduceNeg]; rfl) ?_
  (repeat (first | refine W.seq ?_ | refine W.block ?_ | refine W.skip ?_ | refine W.exit ?_))
  refine W.region tab_ok 0 (by decide) (exec_run (by simp only [exa, beq_self_eq_true, ByteArray.size, Nat.reduceAdd, Nat.reduceLeDiff, Nat.reduceEqDiff, Nat.reduceMul, Int.reduceToNat, reduceIte, Int.reduceLE, Int.reduceNeg, rowF_at ht, rowF_len, ht, ht0, Int.toNat_natCast, and_self, rowF_set1]; rfl)) ?_
  (repeat (first | refine W.seq ?_ | refine W.block ?_ | refine W.skip ?_ | refine W.exit ?_))
  refine W.region L.tab_ok 0 (by decide) (exec_run (by simp only [exa, beq_self_eq_true, ByteArray.size, Nat.reduceAdd, Nat.reduceLeDiff, Nat.reduceEqDiff, Nat.reduceMul, Int.reduceToNat, reduceIte, Int.reduceLE, Int.reduceNeg, L.tabs]; rfl)) ?_
  (repeat (first | refine W.seq ?_ | refine W.block ?_ | refine W.skip ?_ | refine W.exit ?_))
  have hz0 : ∀ a, setF (fun _ => 0) t 1 a ≤ 1 := fun a => by unfold setF; split <;> simp
  have hl0 : left (mF (setF (fun _ => 0) t 1)) n + 1 = n := by
    rw [mF_set (by decide)]
    have h1 := left_mark (mF fun _ => 0) t (by simp [mF]) n
    rw [if_pos ht] at h1
    have h2 : ∀ k, left (mF fun _ => 0) k = k := fun k => by
      induction k with
      | zero => rfl
      | succ k ih => simp only [left, ih]; simp [mF]
    rw [h1, h2]
  refine W.loop (ι := List Nat × (Nat → Nat)) (fun x => ⟨upd (upd (upd (upd (upd (upd (upd (fun _ => .top) 0 (.c (.int .i64 n))) 1 (.c (.sl (E.map cEd)))) 3 (.c (.int .i64 t))) 6 (.ptr 6 0)) 10 (.ptr 10 0)) 11 (.c (.sl (tabC (swapE E) n)))) 12 (.own 40),
      upd (upd (upd (upd Mem.nil 6 (some (.box 3 [.c (.int .i64 f)]))) 10 (some (.box 31 [.own 31]))) 31 (some (.mrow 3 1 (rowF n x.2)))) 40 (some (.mrow 3 1 (x.1.map cN)))⟩)
    (fun x => BInv E t n x.1 x.2 ∧ (∀ a, x.2 a + left (mF x.2) n ≤ n) ∧ left (mF x.2) n + x.1.length ≤ n) (fun x => left (mF x.2) n + x.1.length) ([t], setF (fun _ => 0) t 1) ?start ⟨BInv.first ht, fun a => by have := hz0 a; simp only; omega, by simp only [List.length_cons, List.length_nil]; omega⟩ ?round
  case start =>
    refine le_mk ?sle ?mle ?swf ?mwf (kept_not hkeep) (by rfl)
    case swf => repeat (first | exact swf_top _ | refine swf_upd ?_ (by simp [A.ids, upd_app, cN, List.map_cons, List.map_nil]))
    case mwf => repeat (first | exact mwf_nil _ | refine mwf_upd ?_ (by simp [A.ids, O.ids, upd_app, cN, List.map_cons, List.map_nil]))
    case mle => repeat (first | exact mle_nil _ | exact mle_refl _ | refine mle_upd ?_ (by first | rfl | (simp only [upd_app, killM_app, O.kill, A.kill, Nat.reduceEqDiff, reduceIte, Option.map_some, Option.map_none, List.map_cons, List.map_nil, cN, List.map_cons, List.map_nil]; done)))
    case sle => repeat (first | exact sle_top _ | exact sle_refl _ | refine sle_upd ?_ (by first | rfl | (simp only [upd_app, killS_app, A.kill, entry_zero, entry_succ, Nat.reduceEqDiff, reduceIte, cN, List.map_cons, List.map_nil]; done)))
  case round =>
    rintro ⟨ws, F⟩ ⟨hinv, hF, hbd⟩
    simp only at hinv hF hbd
    cases ws with
    | nil =>
      repeat (first | refine W.seq ?_ | refine W.block ?_ | refine W.skip ?_ | refine W.exit ?_ | refine W.region tab_ok 0 (by decide) (exec_run (by simp only [exa, beq_self_eq_true, ByteArray.size, Nat.reduceAdd, Nat.reduceLeDiff, Nat.reduceEqDiff, Nat.reduceMul, Int.reduceToNat, reduceIte, Int.reduceLE, Int.reduceNeg]; rfl)) ?_)
      refine W.cond rfl ?_ ?_
      · intro h; simp at h
      · intro _
        have hfar := hinv.done
        repeat (first | refine W.seq ?_ | refine W.block ?_ | refine W.skip ?_ | refine W.exit ?_ | refine W.region tab_ok 0 (by decide) (exec_run (by simp only [exa, beq_self_eq_true, ByteArray.size, Nat.reduceAdd, Nat.reduceLeDiff, Nat.reduceEqDiff, Nat.reduceMul, Int.reduceToNat, reduceIte, Int.reduceLE, Int.reduceNeg, rowF_at hf, rowF_len, hf, hf0, Int.toNat_natCast, and_self]; rfl)) ?_)
        (repeat (first | refine W.seq ?_ | refine W.block ?_ | refine W.skip ?_ | refine W.exit ?_))
        cases hFf : F f with
        | zero =>
          have hno := (hinv.none f).1 hFf
          have hr' : r = [(false, [.sl []]), (false, [.int .i64 4])] := by
            rcases hr with ⟨K, hK, -⟩ | ⟨-, e⟩
            · exact absurd ⟨K, hK.1⟩ hno
            · exact e
          refine W.cond rfl ?_ ?_
          · intro _
            repeat (first | refine W.seq ?_ | refine W.block ?_ | refine W.skip ?_ | refine W.exit ?_ | refine W.region tab_ok 0 (by decide) (exec_run (by simp only [exa, beq_self_eq_true, ByteArray.size, Nat.reduceAdd, Nat.reduceLeDiff, Nat.reduceEqDiff, Nat.reduceMul, Int.reduceToNat, reduceIte, Int.reduceLE, Int.reduceNeg]; rfl)) ?_)
            refine W.ret ⟨.inr rfl, by rfl, ?_⟩
            simp only [Tryd.f22, resA, resOne, toT, fin, exa, beq_self_eq_true, ByteArray.size, Nat.reduceAdd, Nat.reduceLeDiff, Nat.reduceEqDiff, Nat.reduceMul, Int.reduceToNat, reduceIte, Int.reduceLE, Int.reduceNeg]
            rw [hr']
          · intro h; simp [hFf] at h
        | succ K =>
          have hK : Dst E t f K := (hfar f K).1 hFf
          have hr' : r = [(false, [.sl ((pathN E t K f).map cN)]), (false, [.int .i64 0])] := by
            rcases hr with ⟨K', hK', e⟩ | ⟨hno, -⟩
            · rw [hK.uniq hK']; exact e
            · exact absurd ⟨K, hK.1⟩ hno
          have hKn := dst_lt hE ht hK
          refine W.cond rfl ?_ ?_
          · intro h; exfalso; simp [hFf] at h; omega
          · intro _
            have hFn : ∀ a, F a ≤ n := fun a => by have := hF a; omega
            (repeat (first | refine W.seq ?_ | refine W.block ?_ | refine W.skip ?_ | refine W.exit ?_))
            refine W.freezeBox 10 0 31 rfl rfl rfl (by decide) (nokeep hkeep) ?_
            refine W.regionDK (T := tabL) L.tab_ok 0 follows_mixed (by kernel_rfl) (by decide) ?_
            refine runk_split 4 (by simp only [exa, beq_self_eq_true, ByteArray.size, Nat.reduceAdd, Nat.reduceLeDiff, Nat.reduceEqDiff, Nat.reduceMul, Int.reduceToNat, reduceIte, Int.reduceLE, Int.reduceNeg, L.tabs]; rfl) ?_
            refine runk_call rfl rfl rfl rfl rfl (by simp) (cvs_cons cv_refl (cvs_cons cv_refl cvs_nil)) (heads_ok n hn E hlen hE _) ?_
            refine runk_exec (by simp only [exa, beq_self_eq_true, ByteArray.size, Nat.reduceAdd, Nat.reduceLeDiff, Nat.reduceEqDiff, Nat.reduceMul, Int.reduceToNat, reduceIte, Int.reduceLE, Int.reduceNeg, L.tabs]; rfl) ?_
            (repeat (first | refine W.seq ?_ | refine W.block ?_ | refine W.skip ?_ | refine W.exit ?_))
            refine W.loop (ι := Nat × Nat × List Nat) (fun x => ⟨upd (upd (upd (upd (upd (fun _ => .top) 3 (.c (.int .i64 t))) 6 (.ptr 6 0)) 10 (.ptr 10 0)) 15 (.own 83)) 16 (.c (.sl (tabC E n))),
                upd (upd (upd Mem.nil 6 (some (.box 3 [.c (.int .i64 x.1)]))) 10 (some (.box 31 [.c (.sl (rowF n F))]))) 83 (some (.mrow 3 1 ((x.2.2 ++ [x.1]).map cN)))⟩)
              (fun x => Dst E t x.1 x.2.1 ∧ x.1 < n ∧ pathN E t K f = x.2.2 ++ pathN E t x.2.1 x.1 ∧ x.2.2.length + x.2.1 = K) (fun x => x.2.1) (f, K, []) ?start3 ⟨hK, hf, rfl, by simp⟩ ?round3
            case start3 =>
              refine le_mk ?sle ?mle ?swf ?mwf (kept_not hkeep) (by rfl)
              case swf => repeat (first | exact swf_top _ | refine swf_upd ?_ (by simp [A.ids, upd_app, cN, List.map_cons, List.map_nil, List.nil_append, List.set]))
              case mwf => repeat (first | exact mwf_nil _ | refine mwf_upd ?_ (by simp [A.ids, O.ids, upd_app, cN, List.map_cons, List.map_nil, List.nil_append, List.set]))
              case mle => repeat (first | exact mle_nil _ | exact mle_refl _ | refine mle_upd ?_ (by first | rfl | (simp only [upd_app, killM_app, O.kill, A.kill, Nat.reduceEqDiff, reduceIte, Option.map_some, Option.map_none, List.map_cons, List.map_nil, cN, List.map_cons, List.map_nil, List.nil_append, List.set]; done)))
              case sle => repeat (first | exact sle_top _ | exact sle_refl _ | refine sle_upd ?_ (by first | rfl | (simp only [upd_app, killS_app, A.kill, entry_zero, entry_succ, Nat.reduceEqDiff, reduceIte, cN, List.map_cons, List.map_nil, List.nil_append, List.set]; done)))
            case round3 =>
              rintro ⟨cur, k, pre⟩ ⟨hd, hcn, hp, hpl⟩
              simp only at hd hcn hp hpl
              have hc0 : (0 : Int) ≤ (cur : Int) := by omega
              repeat (first | refine W.seq ?_ | refine W.block ?_ | refine W.skip ?_ | refine W.exit ?_ | refine W.region tab_ok 0 (by decide) (exec_run (by simp only [exa, beq_self_eq_true, ByteArray.size, Nat.reduceAdd, Nat.reduceLeDiff, Nat.reduceEqDiff, Nat.reduceMul, Int.reduceToNat, reduceIte, Int.reduceLE, Int.reduceNeg]; rfl)) ?_)
              by_cases hct : cur = t
              · refine W.cond rfl ?_ ?_
                · intro h; simp [hct] at h
                · intro _
                  repeat (first | refine W.seq ?_ | refine W.block ?_ | refine W.skip ?_ | refine W.exit ?_ | refine W.region tab_ok 0 (by decide) (exec_run (by simp only [exa, beq_self_eq_true, ByteArray.size, Nat.reduceAdd, Nat.reduceLeDiff, Nat.reduceEqDiff, Nat.reduceMul, Int.reduceToNat, reduceIte, Int.reduceLE, Int.reduceNeg]; rfl)) ?_)
                  obtain rfl : k = 0 := hd.uniq (dst_zero.2 hct)
                  refine W.freeze 8 83 rfl (by simp only [exa, beq_self_eq_true, ByteArray.size, Nat.reduceAdd, Nat.reduceLeDiff, Nat.reduceEqDiff, Nat.reduceMul, Int.reduceToNat, reduceIte, Int.reduceLE, Int.reduceNeg]; rfl) (nokeep hkeep) ?_
                  refine W.ret ⟨.inr rfl, by rfl, ?_⟩
                  simp only [Tryd.f22, resA, resOne, toT, fin, exa, beq_self_eq_true, ByteArray.size, Nat.reduceAdd, Nat.reduceLeDiff, Nat.reduceEqDiff, Nat.reduceMul, Int.reduceToNat, reduceIte, Int.reduceLE, Int.reduceNeg]
                  rw [hr', hp]
                  rfl
              · refine W.cond rfl ?_ ?_
                · intro _
                  obtain ⟨k, rfl⟩ : ∃ k', k = k' + 1 := by
                    cases k with
                    | zero => exact absurd (dst_zero.1 hd) hct
                    | succ k => exact ⟨k, rfl⟩
                  have hFc : F cur = k + 1 + 1 := (hfar cur (k + 1)).2 hd
                  have hpb : ∀ x, stepB F cur x = true ↔ Dst E t x k := fun x => by
                    simp only [stepB, Bool.and_eq_true, decide_eq_true_eq, hFc]
                    rw [← hfar x k]
                    omega
                  obtain ⟨y, hye, hyd⟩ := hd.next
                  have hany : (sortN E cur).any (stepB F cur) = true := List.any_eq_true.2 ⟨y, mem_sortN.2 hye, (hpb y).2 hyd⟩
                  obtain ⟨q, x, hx, hpx, hno, hidx⟩ := idxB_first hany
                  have hxd := (hpb x).1 hpx
                  have hxe : (cur, x) ∈ E := mem_sortN.1 (List.mem_of_getElem? hx)
                  have hxn : x < n := (hE _ hxe).2
                  have hql : q < (sortN E cur).length := (List.getElem?_eq_some_iff.1 hx).1
                  have hnx : nextN E t k cur = x := nextN_eq hxe hxd (fun z hz hzd => first_least (sortN_up E cur) hx hno (mem_sortN.2 hz) ((hpb z).2 hzd))
                  have hsn := sortN_len E cur
                  have hq0 : (0 : Int) ≤ (q : Int) := by omega
                  (repeat (first | refine W.seq ?_ | refine W.block ?_ | refine W.skip ?_ | refine W.exit ?_))
                  refine W.regionK tab_ok 0 (by decide) ?_
                  refine runk_split 5 (by simp only [exa, beq_self_eq_true, ByteArray.size, Nat.reduceAdd, Nat.reduceLeDiff, Nat.reduceEqDiff, Nat.reduceMul, Int.reduceToNat, reduceIte, Int.reduceLE, Int.reduceNeg, tabN_at hcn, tabC_len, hcn, hc0, Int.toNat_natCast, and_self]; rfl) ?_
                  refine runk_callR rfl rfl rfl rfl rfl (by simp) (cvrs_cons cvr_refl (cvrs_cons (cvr_fn rfl) cvrs_nil)) (by rfl) (by rfl) (idxN_ok (sortN E cur) 39 [[.sl (rowF n F)], [.int .i64 cur]] (stepB F cur) (by omega) (fun x hx m => path1_ok n F hFn hn cur x hcn (hE _ (mem_sortN.1 hx)).2 m)) ?_
                  rw [hidx]
                  refine runk_exec (by simp only [exa, beq_self_eq_true, ByteArray.size, Nat.reduceAdd, Nat.reduceLeDiff, Nat.reduceEqDiff, Nat.reduceMul, Int.reduceToNat, reduceIte, Int.reduceLE, Int.reduceNeg]; rfl) ?_
                  (repeat (first | refine W.seq ?_ | refine W.block ?_ | refine W.skip ?_ | refine W.exit ?_))
                  refine W.region tab_ok 0 (by decide) (exec_run (by simp only [exa, beq_self_eq_true, ByteArray.size, Nat.reduceAdd, Nat.reduceLeDiff, Nat.reduceEqDiff, Nat.reduceMul, Int.reduceToNat, reduceIte, Int.reduceLE, Int.reduceNeg, tabN_at hcn, tabC_len, hcn, hc0, Int.toNat_natCast, and_self, at_map hx, hq0, List.length_map, hql, cN]; rfl)) ?_
                  (repeat (first | refine W.seq ?_ | refine W.block ?_ | refine W.skip ?_ | refine W.exit ?_))
                  refine W.regionK tab_ok 0 (by decide) ?_
                  refine runk_split 3 (by simp only [exa, beq_self_eq_true, ByteArray.size, Nat.reduceAdd, Nat.reduceLeDiff, Nat.reduceEqDiff, Nat.reduceMul, Int.reduceToNat, reduceIte, Int.reduceLE, Int.reduceNeg]; rfl) ?_
                  refine runk_appendM tab_ok 83 rfl rfl rfl rfl rfl rfl (by simp only [exa, beq_self_eq_true, ByteArray.size, Nat.reduceAdd, Nat.reduceLeDiff, Nat.reduceEqDiff, Nat.reduceMul, Int.reduceToNat, reduceIte, Int.reduceLE, Int.reduceNeg]) (by simp only [exa, beq_self_eq_true, ByteArray.size, Nat.reduceAdd, Nat.reduceLeDiff, Nat.reduceEqDiff, Nat.reduceMul, Int.reduceToNat, reduceIte, Int.reduceLE, Int.reduceNeg]; rfl) (by first | rfl | (simp only [exa, beq_self_eq_true, ByteArray.size, Nat.reduceAdd, Nat.reduceLeDiff, Nat.reduceEqDiff, Nat.reduceMul, Int.reduceToNat, reduceIte, Int.reduceLE, Int.reduceNeg]; rfl)) rfl rfl rfl rfl (nokeep hkeep) (fun z hz => by simp at hz; subst hz; rfl) (by simp only [List.length_map, List.length_append, List.length_cons, List.length_nil]; omega) (by decide) ?_
                  refine runk_exec (by simp only [exa, beq_self_eq_true, ByteArray.size, Nat.reduceAdd, Nat.reduceLeDiff, Nat.reduceEqDiff, Nat.reduceMul, Int.reduceToNat, reduceIte, Int.reduceLE, Int.reduceNeg]; rfl) ?_
                  refine ⟨(x, k, pre ++ [cur]), ⟨hxd, hxn, ?_, by simp only [List.length_append, List.length_cons, List.length_nil]; omega⟩, by simp only; omega, ?_⟩
                  · rw [hp]; simp [pathN, hnx]
                  refine le_mk ?sle ?mle ?swf ?mwf (kept_not hkeep) (by rfl)
                  case swf => repeat (first | exact swf_top _ | refine swf_upd ?_ (by simp [A.ids, upd_app, cN, List.map_append, List.map_cons, List.map_nil]))
                  case mwf => repeat (first | exact mwf_nil _ | refine mwf_upd ?_ (by simp [A.ids, O.ids, upd_app, cN, List.map_append, List.map_cons, List.map_nil]))
                  case mle => repeat (first | exact mle_nil _ | exact mle_refl _ | refine mle_upd ?_ (by first | rfl | (simp only [upd_app, killM_app, O.kill, A.kill, Nat.reduceEqDiff, reduceIte, Option.map_some, Option.map_none, List.map_cons, List.map_nil, cN, List.map_append, List.map_cons, List.map_nil]; done)))
                  case sle => repeat (first | exact sle_top _ | exact sle_refl _ | refine sle_upd ?_ (by first | rfl | (simp only [upd_app, killS_app, A.kill, entry_zero, entry_succ, Nat.reduceEqDiff, reduceIte, cN, List.map_append, List.map_cons, List.map_nil]; done)))
                · intro h; simp at h; omega
    | cons i vs =>
      have hi : i < n := hinv.lt i (hinv.sub i (by simp))
      have hi0 : (0 : Int) ≤ (i : Int) := by omega
      have hb1 : vs.length + 1 ≤ n := by simp only [List.length_cons] at hbd; omega
      have hsn := sortN_len (swapE E) i
      have hsl : (swapE E).length = E.length := by simp [swapE]
      repeat (first | refine W.seq ?_ | refine W.block ?_ | refine W.skip ?_ | refine W.exit ?_ | refine W.region tab_ok 0 (by decide) (exec_run (by simp only [exa, beq_self_eq_true, ByteArray.size, Nat.reduceAdd, Nat.reduceLeDiff, Nat.reduceEqDiff, Nat.reduceMul, Int.reduceToNat, reduceIte, Int.reduceLE, Int.reduceNeg, List.length_map, List.length_cons]; rfl)) ?_)
      refine W.cond rfl ?_ ?_
      · intro _
        repeat (first | refine W.seq ?_ | refine W.block ?_ | refine W.skip ?_ | refine W.exit ?_ | refine W.region tab_ok 0 (by decide) (exec_run (by simp only [exa, beq_self_eq_true, ByteArray.size, Nat.reduceAdd, Nat.reduceLeDiff, Nat.reduceEqDiff, Nat.reduceMul, Int.reduceToNat, reduceIte, Int.reduceLE, Int.reduceNeg, List.map_cons, cN, tabN_at hi, hi, hi0, tabC_len, Int.toNat_natCast, and_self, Int.toNat_zero, Nat.zero_lt_succ, List.length_map]; rfl)) ?_)
        refine W.loop (ι := Nat × List Nat × (Nat → Nat)) (fun x => ⟨upd (upd (upd (upd (upd (upd (upd (upd (upd (upd (fun _ => .top) 0 (.c (.int .i64 n))) 1 (.c (.sl (E.map cEd)))) 3 (.c (.int .i64 t))) 6 (.ptr 6 0)) 10 (.ptr 10 0)) 11 (.c (.sl (tabC (swapE E) n)))) 12 (.own 40)) 51 (.c (.sl ((sortN (swapE E) i).map cN)))) 52 (.c (.int .i64 (sortN (swapE E) i).length))) 53 (.c (.int .i64 x.1)),
            upd (upd (upd (upd Mem.nil 6 (some (.box 3 [.c (.int .i64 f)]))) 10 (some (.box 31 [.own 31]))) 31 (some (.mrow 3 1 (rowF n x.2.2)))) 40 (some (.mrow 3 1 ((i :: x.2.1).map cN)))⟩)
          (fun x => x.1 ≤ (sortN (swapE E) i).length ∧ BMid E t n i x.2.1 x.2.2 ((sortN (swapE E) i).drop x.1) ∧ (∀ a, x.2.2 a + left (mF x.2.2) n ≤ n) ∧ left (mF x.2.2) n + x.2.1.length = left (mF F) n + vs.length) (fun x => (sortN (swapE E) i).length - x.1) (0, vs, F) ?start2 ⟨Nat.zero_le _, hinv.take (fun k hk => mem_sortN.2 (mem_swap.2 hk)), hF, rfl⟩ ?round2
        case start2 =>
          refine le_mk ?sle ?mle ?swf ?mwf (kept_not hkeep) (by rfl)
          case swf => repeat (first | exact swf_top _ | refine swf_upd ?_ (by simp [A.ids, upd_app, cN, List.map_cons]))
          case mwf => repeat (first | exact mwf_nil _ | refine mwf_upd ?_ (by simp [A.ids, O.ids, upd_app, cN, List.map_cons]))
          case mle => repeat (first | exact mle_nil _ | exact mle_refl _ | refine mle_upd ?_ (by first | rfl | (simp only [upd_app, killM_app, O.kill, A.kill, Nat.reduceEqDiff, reduceIte, Option.map_some, Option.map_none, List.map_cons, List.map_nil, cN, List.map_cons]; done)))
          case sle => repeat (first | exact sle_top _ | exact sle_refl _ | refine sle_upd ?_ (by first | rfl | (simp only [upd_app, killS_app, A.kill, entry_zero, entry_succ, Nat.reduceEqDiff, reduceIte, cN, List.map_cons]; done)))
        case round2 =>
          rintro ⟨j, us, F2⟩ ⟨hj, hmid, hF2, hcnt⟩
          simp only at hj hmid hF2 hcnt
          repeat (first | refine W.seq ?_ | refine W.block ?_ | refine W.skip ?_ | refine W.exit ?_ | refine W.region tab_ok 0 (by decide) (exec_run (by simp only [exa, beq_self_eq_true, ByteArray.size, Nat.reduceAdd, Nat.reduceLeDiff, Nat.reduceEqDiff, Nat.reduceMul, Int.reduceToNat, reduceIte, Int.reduceLE, Int.reduceNeg]; rfl)) ?_)
          refine W.cond rfl ?_ ?_
          · intro hlt
            simp only [decide_eq_true_eq, Int.ofNat_lt] at hlt
            obtain ⟨x, hx⟩ : ∃ x, (sortN (swapE E) i)[j]? = some x := ⟨_, List.getElem?_eq_getElem hlt⟩
            have hedge : (x, i) ∈ E := mem_swap.1 (mem_sortN.1 (List.mem_of_getElem? hx))
            have hxn : x < n := (hE _ hedge).1
            have hx0 : (0 : Int) ≤ (x : Int) := by omega
            have hdrop : (sortN (swapE E) i).drop j = x :: (sortN (swapE E) i).drop (j + 1) := by
              rw [List.drop_eq_getElem_cons hlt]
              congr 1
              rw [List.getElem?_eq_getElem hlt] at hx; exact Option.some.inj hx
            rw [hdrop] at hmid
            repeat (first | refine W.seq ?_ | refine W.block ?_ | refine W.skip ?_ | refine W.exit ?_ | refine W.region tab_ok 0 (by decide) (exec_run (by simp only [exa, beq_self_eq_true, ByteArray.size, Nat.reduceAdd, Nat.reduceLeDiff, Nat.reduceEqDiff, Nat.reduceMul, Int.reduceToNat, reduceIte, Int.reduceLE, Int.reduceNeg, at_map hx, cN, rowF_at hxn, rowF_len, hxn, hx0, Int.toNat_natCast, and_self]; rfl)) ?_)
            refine W.cond rfl ?_ ?_
            · intro hq
              have hq : F2 x = 0 := by simp only [decide_eq_true_eq] at hq; omega
              have hFi := hF2 i
              have hm := left_mark (mF F2) x (by simp [mF, hq]) n
              rw [if_pos hxn] at hm
              have hwr : IntKind.i64.wrap ((F2 i : Int) + 1) = ((F2 i + 1 : Nat) : Int) := wrap_succ (by omega)
              (repeat (first | refine W.seq ?_ | refine W.block ?_ | refine W.skip ?_ | refine W.exit ?_))
              refine W.regionDK tab_ok 0 follows_mixed (by kernel_rfl) (by decide) ?_
              refine runk_exec (by simp only [exa, beq_self_eq_true, ByteArray.size, Nat.reduceAdd, Nat.reduceLeDiff, Nat.reduceEqDiff, Nat.reduceMul, Int.reduceToNat, reduceIte, Int.reduceLE, Int.reduceNeg, List.map_cons, cN, rowF_at hi, rowF_at hxn, rowF_len, hi, hi0, hxn, hx0, Int.toNat_natCast, and_self, Int.toNat_zero, Nat.zero_lt_succ, hwr, rowF_set, List.length_cons]; rfl) ?_
              (repeat (first | refine W.seq ?_ | refine W.block ?_ | refine W.skip ?_ | refine W.exit ?_))
              refine W.regionK tab_ok 0 (by decide) ?_
              refine runk_split 3 (by simp only [exa, beq_self_eq_true, ByteArray.size, Nat.reduceAdd, Nat.reduceLeDiff, Nat.reduceEqDiff, Nat.reduceMul, Int.reduceToNat, reduceIte, Int.reduceLE, Int.reduceNeg]; rfl) ?_
              refine runk_appendM tab_ok 40 rfl rfl rfl rfl rfl rfl (by simp only [exa, beq_self_eq_true, ByteArray.size, Nat.reduceAdd, Nat.reduceLeDiff, Nat.reduceEqDiff, Nat.reduceMul, Int.reduceToNat, reduceIte, Int.reduceLE, Int.reduceNeg]) (by simp only [exa, beq_self_eq_true, ByteArray.size, Nat.reduceAdd, Nat.reduceLeDiff, Nat.reduceEqDiff, Nat.reduceMul, Int.reduceToNat, reduceIte, Int.reduceLE, Int.reduceNeg]; rfl) (by first | rfl | (simp only [exa, beq_self_eq_true, ByteArray.size, Nat.reduceAdd, Nat.reduceLeDiff, Nat.reduceEqDiff, Nat.reduceMul, Int.reduceToNat, reduceIte, Int.reduceLE, Int.reduceNeg]; rfl)) rfl rfl rfl rfl (nokeep hkeep) (fun z hz => by simp at hz; subst hz; rfl) (by simp only [List.length_map, List.length_cons, List.length_nil]; omega) (by decide) ?_
              refine runk_exec (by simp only [exa, beq_self_eq_true, ByteArray.size, Nat.reduceAdd, Nat.reduceLeDiff, Nat.reduceEqDiff, Nat.reduceMul, Int.reduceToNat, reduceIte, Int.reduceLE, Int.reduceNeg]; rfl) ?_
              repeat (first | refine W.seq ?_ | refine W.block ?_ | refine W.skip ?_ | refine W.exit ?_ | refine W.region tab_ok 0 (by decide) (exec_run (by simp only [exa, beq_self_eq_true, ByteArray.size, Nat.reduceAdd, Nat.reduceLeDiff, Nat.reduceEqDiff, Nat.reduceMul, Int.reduceToNat, reduceIte, Int.reduceLE, Int.reduceNeg]; rfl)) ?_)
              refine ⟨(j + 1, us ++ [x], setF F2 x (F2 i + 1)), ⟨hlt, hmid.new hq hxn hedge, fun a => ?_, ?_⟩, by simp only; omega, ?_⟩
              · rw [mF_set (by omega)]
                have := hF2 a
                simp only [setF]
                split <;> omega
              · rw [mF_set (by omega)]
                simp only [List.length_append, List.length_cons, List.length_nil]; omega
              refine le_mk ?sle ?mle ?swf ?mwf (kept_not hkeep) (by rfl)
              case swf => repeat (first | exact swf_top _ | refine swf_upd ?_ (by simp [A.ids, upd_app, wrap_succ (show j + 1 < 9223372036854775808 by omega), List.map_append, List.map_cons, cN, List.cons_append]))
              case mwf => repeat (first | exact mwf_nil _ | refine mwf_upd ?_ (by simp [A.ids, O.ids, upd_app, wrap_succ (show j + 1 < 9223372036854775808 by omega), List.map_append, List.map_cons, cN, List.cons_append]))
              case mle => repeat (first | exact mle_nil _ | exact mle_refl _ | refine mle_upd ?_ (by first | rfl | (simp only [upd_app, killM_app, O.kill, A.kill, Nat.reduceEqDiff, reduceIte, Option.map_some, Option.map_none, List.map_cons, List.map_nil, wrap_succ (show j + 1 < 9223372036854775808 by omega), List.map_append, List.map_cons, cN, List.cons_append]; done)))
              case sle => repeat (first | exact sle_top _ | exact sle_refl _ | refine sle_upd ?_ (by first | rfl | (simp only [upd_app, killS_app, A.kill, entry_zero, entry_succ, Nat.reduceEqDiff, reduceIte, wrap_succ (show j + 1 < 9223372036854775808 by omega), List.map_append, List.map_cons, cN, List.cons_append]; done)))
            · intro hq
              have hq : F2 x ≠ 0 := by simp only [decide_eq_false_iff_not] at hq; omega
              repeat (first | refine W.seq ?_ | refine W.block ?_ | refine W.skip ?_ | refine W.exit ?_ | refine W.region tab_ok 0 (by decide) (exec_run (by simp only [exa, beq_self_eq_true, ByteArray.size, Nat.reduceAdd, Nat.reduceLeDiff, Nat.reduceEqDiff, Nat.reduceMul, Int.reduceToNat, reduceIte, Int.reduceLE, Int.reduceNeg]; rfl)) ?_)
              refine ⟨(j + 1, us, F2), ⟨hlt, hmid.old hq, hF2, hcnt⟩, by simp only; omega, ?_⟩
              refine le_mk ?sle ?mle ?swf ?mwf (kept_not hkeep) (by rfl)
              case swf => repeat (first | exact swf_top _ | refine swf_upd ?_ (by simp [A.ids, upd_app, wrap_succ (show j + 1 < 9223372036854775808 by omega)]))
              case mwf => repeat (first | exact mwf_nil _ | refine mwf_upd ?_ (by simp [A.ids, O.ids, upd_app, wrap_succ (show j + 1 < 9223372036854775808 by omega)]))
              case mle => repeat (first | exact mle_nil _ | exact mle_refl _ | refine mle_upd ?_ (by first | rfl | (simp only [upd_app, killM_app, O.kill, A.kill, Nat.reduceEqDiff, reduceIte, Option.map_some, Option.map_none, List.map_cons, List.map_nil, wrap_succ (show j + 1 < 9223372036854775808 by omega)]; done)))
              case sle => repeat (first | exact sle_top _ | exact sle_refl _ | refine sle_upd ?_ (by first | rfl | (simp only [upd_app, killS_app, A.kill, entry_zero, entry_succ, Nat.reduceEqDiff, reduceIte, wrap_succ (show j + 1 < 9223372036854775808 by omega)]; done)))
          · intro hge
            simp only [decide_eq_false_iff_not, Int.ofNat_lt] at hge
            rw [List.drop_of_length_le (by omega)] at hmid
            (repeat (first | refine W.seq ?_ | refine W.block ?_ | refine W.skip ?_ | refine W.exit ?_))
            refine W.thenRewin 12 40 (by decide) (nokeep hkeep) ?_
            have hlu : us.length ≤ us.length := Nat.le_refl _
            (repeat (first | refine W.seq ?_ | refine W.block ?_ | refine W.skip ?_ | refine W.exit ?_))
            refine W.region tab_ok 0 (by decide) (exec_run (by simp only [exa, beq_self_eq_true, ByteArray.size, Nat.reduceAdd, Nat.reduceLeDiff, Nat.reduceEqDiff, Nat.reduceMul, Int.reduceToNat, reduceIte, Int.reduceLE, Int.reduceNeg, List.length_map, List.length_cons, hlu]; rfl)) ?_
            refine ⟨_, _, _, _, _, rfl, by simp only [exa, beq_self_eq_true, ByteArray.size, Nat.reduceAdd, Nat.reduceLeDiff, Nat.reduceEqDiff, Nat.reduceMul, Int.reduceToNat, reduceIte, Int.reduceLE, Int.reduceNeg]; rfl, by simp, ?_⟩
            refine ⟨(us, F2), ⟨hmid.done, hF2, by simp only [List.length_cons] at hbd; simp only; omega⟩, by simp only [List.length_cons]; omega, ?_⟩
            have htk : ((cN i :: us.map cN).take (us.length + 1)).tail = us.map cN := by rw [List.take_of_length_le (by simp)]; rfl
            refine le_mk ?sle ?mle ?swf ?mwf (kept_not hkeep) (by rfl)
            case swf => repeat (first | exact swf_top _ | refine swf_upd ?_ (by simp [A.ids, upd_app, List.drop_one, htk]))
            case mwf => repeat (first | exact mwf_nil _ | refine mwf_upd ?_ (by simp [A.ids, O.ids, upd_app, List.drop_one, htk]))
            case mle => repeat (first | exact mle_nil _ | exact mle_refl _ | refine mle_upd ?_ (by first | rfl | (simp only [upd_app, killM_app, O.kill, A.kill, Nat.reduceEqDiff, reduceIte, Option.map_some, Option.map_none, List.map_cons, List.map_nil, List.drop_one, htk]; done)))
            case sle => repeat (first | exact sle_top _ | exact sle_refl _ | refine sle_upd ?_ (by first | rfl | (simp only [upd_app, killS_app, A.kill, entry_zero, entry_succ, Nat.reduceEqDiff, reduceIte, List.drop_one, htk]; done)))
      · intro h; simp at h
end V
end Go.Proofs.YtknmcmfdbfhadaaDoor
end
section
/- What graph.Path answers of any graph. -/
set_option linter.unusedVariables false
set_option linter.unusedSimpArgs false
namespace Go.Proofs.YtknmcmfdbfhadaaDoor
namespace V
open Go.RowKit G
open Classical in
noncomputable def pathA (E : List (Nat × Nat)) (t f : Nat) : List (Bool × List C) :=
  if h : ∃ K, Dst E t f K then [(false, [.sl ((pathN E t (Classical.choose h) f).map cN)]), (false, [.int .i64 0])] else [(false, [.sl []]), (false, [.int .i64 4])]
theorem pathA_some {E : List (Nat × Nat)} {t f K : Nat} (h : Dst E t f K) : pathA E t f = [(false, [.sl ((pathN E t K f).map cN)]), (false, [.int .i64 0])] := by
  unfold pathA
  have hx : ∃ K, Dst E t f K := ⟨K, h⟩
  rw [dif_pos hx, (Classical.choose_spec hx).uniq h]
theorem pathA_none {E : List (Nat × Nat)} {t f : Nat} (h : ¬ ∃ v, G.Way E t f v) : pathA E t f = [(false, [.sl []]), (false, [.int .i64 4])] := by
  unfold pathA
  rw [dif_neg (fun ⟨K, hK⟩ => h ⟨K, hK.1⟩)]
theorem pathA_cases (E : List (Nat × Nat)) (t f : Nat) : (∃ K, Dst E t f K ∧ pathA E t f = [(false, [.sl ((pathN E t K f).map cN)]), (false, [.int .i64 0])]) ∨ ((¬ ∃ v, G.Way E t f v) ∧ pathA E t f = [(false, [.sl []]), (false, [.int .i64 4])]) := by
  by_cases h : ∃ v, G.Way E t f v
  · obtain ⟨v, hv⟩ := h
    obtain ⟨K, -, hK⟩ := dst_of hv
    exact .inl ⟨K, hK, pathA_some hK⟩
  · exact .inr ⟨h, pathA_none h⟩
noncomputable def pathR (n : Int) (l : List (Int × Int)) (f t : Int) : List (Bool × List C) :=
  if chkB n l = false then [(false, [.sl []]), (false, [.int .i64 150])]
  else if (badI n f || badI n t) = true then [(false, [.sl []]), (false, [.int .i64 1])]
  else pathA (l.map fun e => (e.1.toNat, e.2.toNat)) t.toNat f.toNat
theorem node_of {n : Nat} {z : Int} (h : badI n z = false) : ∃ k : Nat, z = k ∧ k < n ∧ z.toNat = k := by
  simp only [badI, Bool.or_eq_false_iff, decide_eq_false_iff_not] at h
  exact ⟨z.toNat, by omega, by omega, rfl⟩
theorem path_ok (n : Int) (l : List (Int × Int)) (hl : l.length ≤ 1000000) (f t : Int) (m : Mem) :
    COk Tryd.prog 22 [.c (.int .i64 n), .c (.sl (l.map cE)), .c (.int .i64 f), .c (.int .i64 t)] m (.tup (pathR n l f t)) := by
  cases hc : chkB n l with
  | false =>
    have hr : pathR n l f t = [(false, [.sl []]), (false, [.int .i64 150])] := by unfold pathR; rw [if_pos hc]
    rw [hr]
    have hk := check_ok n l (by omega)
    rw [hc] at hk
    refine (ok_pure tab_ok Tryd.func22 (by kernel_rfl) rfl rfl (by rfl) (by rfl) (by rfl) (fun R hkeep => ?_) m)
    repeat (first | refine W.seq ?_ | refine W.block ?_ | refine W.skip ?_ | refine W.exit ?_ | refine W.region tab_ok 0 (by decide) (exec_run (by simp only [exa, beq_self_eq_true, ByteArray.size, Nat.reduceAdd, Nat.reduceLeDiff, Nat.reduceEqDiff, Nat.reduceMul, Int.reduceToNat, reduceIte, Int.reduceLE, Int.reduceNeg]; rfl)) ?_)
    refine W.regionK tab_ok 0 (by decide) ?_
    refine runk_split 2 (by simp only [exa, beq_self_eq_true, ByteArray.size, Nat.reduceAdd, Nat.reduceLeDiff, Nat.reduceEqDiff, Nat.reduceMul, Int.reduceToNat, reduceIte, Int.reduceLE, Int.reduceNeg]; rfl) ?_
    refine runk_call rfl rfl rfl rfl rfl (by simp) (cvs_cons cv_refl (cvs_cons cv_refl cvs_nil)) (hk _) ?_
    refine runk_exec (by simp only [exa, beq_self_eq_true, ByteArray.size, Nat.reduceAdd, Nat.reduceLeDiff, Nat.reduceEqDiff, Nat.reduceMul, Int.reduceToNat, reduceIte, Int.reduceLE, Int.reduceNeg, errG, Bool.false_eq_true]; rfl) ?_
    refine W.cond rfl ?_ ?_
    · intro _
      repeat (first | refine W.seq ?_ | refine W.block ?_ | refine W.skip ?_ | refine W.exit ?_ | refine W.region tab_ok 0 (by decide) (exec_run (by simp only [exa, beq_self_eq_true, ByteArray.size, Nat.reduceAdd, Nat.reduceLeDiff, Nat.reduceEqDiff, Nat.reduceMul, Int.reduceToNat, reduceIte, Int.reduceLE, Int.reduceNeg]; rfl)) ?_)
      refine W.ret ⟨.inr rfl, by rfl, ?_⟩
      simp only [Tryd.f22, resA, resOne, toT, fin, exa, beq_self_eq_true, ByteArray.size, Nat.reduceAdd, Nat.reduceLeDiff, Nat.reduceEqDiff, Nat.reduceMul, Int.reduceToNat, reduceIte, Int.reduceLE, Int.reduceNeg]
    · intro h; cases h
  | true =>
    obtain ⟨N, E, rfl, rfl, hN, hE, e1, e2, e3⟩ := chk_parts hc
    cases hs : (badI N f || badI N t) with
    | true =>
      have hr : pathR N (E.map castE) f t = [(false, [.sl []]), (false, [.int .i64 1])] := by unfold pathR; rw [if_neg (by simp [hc]), if_pos hs]
      rw [hr, cE_cast]
      have hk := among_ok N [f, t] (by simp)
      rw [show [f, t].any (badI N) = true by simpa using hs] at hk
      refine (ok_pure tab_ok Tryd.func22 (by kernel_rfl) rfl rfl (by rfl) (by rfl) (by rfl) (fun R hkeep => ?_) m)
      repeat (first | refine W.seq ?_ | refine W.block ?_ | refine W.skip ?_ | refine W.exit ?_ | refine W.region tab_ok 0 (by decide) (exec_run (by simp only [exa, beq_self_eq_true, ByteArray.size, Nat.reduceAdd, Nat.reduceLeDiff, Nat.reduceEqDiff, Nat.reduceMul, Int.reduceToNat, reduceIte, Int.reduceLE, Int.reduceNeg]; rfl)) ?_)
      refine W.regionK tab_ok 0 (by decide) ?_
      refine runk_split 2 (by simp only [exa, beq_self_eq_true, ByteArray.size, Nat.reduceAdd, Nat.reduceLeDiff, Nat.reduceEqDiff, Nat.reduceMul, Int.reduceToNat, reduceIte, Int.reduceLE, Int.reduceNeg]; rfl) ?_
      refine runk_call rfl rfl rfl rfl rfl (by simp) (cvs_cons cv_refl (cvs_cons cv_refl cvs_nil)) (checkN_ok hN (by omega) hE _) ?_
      refine runk_exec (by simp only [exa, beq_self_eq_true, ByteArray.size, Nat.reduceAdd, Nat.reduceLeDiff, Nat.reduceEqDiff, Nat.reduceMul, Int.reduceToNat, reduceIte, Int.reduceLE, Int.reduceNeg]; rfl) ?_
      refine W.cond rfl ?_ ?_
      · intro h; cases h
      intro _
      repeat (first | refine W.seq ?_ | refine W.block ?_ | refine W.skip ?_ | refine W.exit ?_ | refine W.region tab_ok 0 (by decide) (exec_run (by simp only [exa, beq_self_eq_true, ByteArray.size, Nat.reduceAdd, Nat.reduceLeDiff, Nat.reduceEqDiff, Nat.reduceMul, Int.reduceToNat, reduceIte, Int.reduceLE, Int.reduceNeg]; rfl)) ?_)
      refine W.regionK tab_ok 0 (by decide) ?_
      refine runk_split 4 (by simp only [exa, beq_self_eq_true, ByteArray.size, Nat.reduceAdd, Nat.reduceLeDiff, Nat.reduceEqDiff, Nat.reduceMul, Int.reduceToNat, reduceIte, Int.reduceLE, Int.reduceNeg]; rfl) ?_
      refine runk_call rfl rfl rfl rfl rfl (by simp) (cvs_cons cv_refl (cvs_cons cv_refl cvs_nil)) (hk _) ?_
      refine runk_exec (by simp only [exa, beq_self_eq_true, ByteArray.size, Nat.reduceAdd, Nat.reduceLeDiff, Nat.reduceEqDiff, Nat.reduceMul, Int.reduceToNat, reduceIte, Int.reduceLE, Int.reduceNeg]; rfl) ?_
      refine W.cond rfl ?_ ?_
      · intro _
        repeat (first | refine W.seq ?_ | refine W.block ?_ | refine W.skip ?_ | refine W.exit ?_ | refine W.region tab_ok 0 (by decide) (exec_run (by simp only [exa, beq_self_eq_true, ByteArray.size, Nat.reduceAdd, Nat.reduceLeDiff, Nat.reduceEqDiff, Nat.reduceMul, Int.reduceToNat, reduceIte, Int.reduceLE, Int.reduceNeg]; rfl)) ?_)
        refine W.ret ⟨.inr rfl, by rfl, ?_⟩
        simp only [Tryd.f22, resA, resOne, toT, fin, exa, beq_self_eq_true, ByteArray.size, Nat.reduceAdd, Nat.reduceLeDiff, Nat.reduceEqDiff, Nat.reduceMul, Int.reduceToNat, reduceIte, Int.reduceLE, Int.reduceNeg]
      · intro h; cases h
    | false =>
      rw [Bool.or_eq_false_iff] at hs
      obtain ⟨a, rfl, ha, e4⟩ := node_of hs.1
      obtain ⟨b, rfl, hb, e5⟩ := node_of hs.2
      have hr : pathR N (E.map castE) a b = pathA E b a := by
        unfold pathR; rw [if_neg (by simp [hc]), if_neg (by simp [hs]), e2]; rfl
      rw [hr, cE_cast]
      exact pathG_ok N hN E (by omega) hE a b ha hb _ (pathA_cases E b a) m
end V
end Go.Proofs.YtknmcmfdbfhadaaDoor
end
section
/- The reference's distances and paths. -/
set_option linter.unusedVariables false
set_option linter.unusedSimpArgs false
namespace Go.Proofs.YtknmcmfdbfhadaaDoor
namespace V
open Go.RowKit G
/-- How far each node is: one less; -1: no way. -/
def rowM (n : Nat) (F : Nat → Nat) : List (List C) := (List.range n).map fun i => [.int .i64 ((F i : Int) - 1)]
theorem rowM_len (n : Nat) (F : Nat → Nat) : (rowM n F).length = n := by simp [rowM]
theorem rowM_at {n k : Nat} {F : Nat → Nat} (h : k < n) : (rowM n F)[k]? = some [.int .i64 ((F k : Int) - 1)] := by simp [rowM, h]
theorem rowM_set {n k v : Nat} {F : Nat → Nat} : (rowM n F).set k [.int .i64 ((v : Int) - 1)] = rowM n (setF F k v) := by
  refine List.ext_getElem? fun i => ?_
  rw [List.getElem?_set, rowM_len]
  by_cases hi : i < n
  · rw [rowM_at hi, rowM_at hi]
    by_cases e : k = i
    · subst e; rw [if_pos rfl, if_pos hi]; simp [setF]
    · rw [if_neg e]; simp [setF, Ne.symm e]
  · have h1 : (rowM n F)[i]? = none := by rw [List.getElem?_eq_none]; rw [rowM_len]; omega
    have h2 : (rowM n (setF F k v))[i]? = none := by rw [List.getElem?_eq_none]; rw [rowM_len]; omega
    rw [h1, h2]
    split
    · rw [if_neg (by omega)]
    · rfl
/-- The first k are -1, the others nought. -/
def rowK (n k : Nat) : List (List C) := (List.range n).map fun i => [.int .i64 (if i < k then -1 else 0)]
theorem rowK_len (n k : Nat) : (rowK n k).length = n := by simp [rowK]
theorem rowK_at {n k i : Nat} (h : i < n) : (rowK n k)[i]? = some [.int .i64 (if i < k then -1 else 0)] := by simp [rowK, h]
theorem rowK_set {n k : Nat} (hk : k < n) : (rowK n k).set k [.int .i64 (-1)] = rowK n (k + 1) := by
  refine List.ext_getElem? fun i => ?_
  rw [List.getElem?_set, rowK_len]
  by_cases hi : i < n
  · rw [rowK_at hi, rowK_at hi]
    by_cases e : k = i
    · subst e; rw [if_pos rfl, if_pos hi, if_pos (by omega)]
    · rw [if_neg e]
      by_cases q : i < k
      · rw [if_pos q, if_pos (by omega)]
      · rw [if_neg q, if_neg (by omega)]
  · have h1 : (rowK n k)[i]? = none := by rw [List.getElem?_eq_none]; rw [rowK_len]; omega
    have h2 : (rowK n (k + 1))[i]? = none := by rw [List.getElem?_eq_none]; rw [rowK_len]; omega
    rw [h1, h2]
    split
    · rename_i e; exfalso; omega
    · rfl
theorem rowK_zero (n : Nat) : List.replicate n [C.int .i64 0] = rowK n 0 := by
  refine List.ext_getElem? fun i => ?_
  by_cases hi : i < n
  · rw [rowK_at hi]; simp [hi]
  · rw [List.getElem?_eq_none (by simpa using hi), List.getElem?_eq_none (by rw [rowK_len]; omega)]
theorem rowK_all (n : Nat) : rowK n n = rowM n (fun _ => 0) := by
  refine List.ext_getElem? fun i => ?_
  by_cases hi : i < n
  · rw [rowK_at hi, rowM_at hi, if_pos hi]; rfl
  · rw [List.getElem?_eq_none (by rw [rowK_len]; omega), List.getElem?_eq_none (by rw [rowM_len]; omega)]
set_option maxHeartbeats 2000000 in
theorem far_ok (n : Nat) (hn : n ≤ 100000) (E : List (Nat × Nat)) (hlen : E.length ≤ 1000000) (hE : ∀ e ∈ E, e.1 < n ∧ e.2 < n) (t : Nat) (ht : t < n) (F : Nat → Nat) (hF : Far E t F) (m : Mem) :
    COk Tryd.prog 40 [.c (.int .i64 n), .c (.sl (E.map cEd)), .c (.int .i64 t)] m (.c (.sl (rowM n F))) := by
  have hm1 : n * 8 ≤ 140737488355328 := by omega
  have hm2 : (n : Int) ≤ 9223372036854775807 := by omega
  have hn0 : (0 : Int) ≤ (n : Int) := by omega
  have ht0 : (0 : Int) ≤ (t : Int) := by omega
  refine (ok_pure tab_ok Tryd.func40 (by kernel_rfl) rfl rfl (by rfl) (by rfl) (by rfl) (fun R hkeep => ?_) m)
  repeat (first | refine W.seq ?_ | refine W.block ?_ | refine W.skip ?_ | refine W.exit ?_ | refine W.region tab_ok 0 (by decide) (exec_run (by simp only [exa, beq_self_eq_true, ByteArray.size, Nat.reduceAdd, Nat.reduceLeDiff, Nat.reduceEqDiff, Nat.reduceMul, Int.reduceToNat, reduceIte, Int.reduceLE, Int.reduceNeg, hm1, hm2, hn0, Int.toNat_natCast, and_self, Bool.false_eq_true, rowK_zero, rowK_len]; rfl)) ?_)
  refine W.loop (ι := Nat) (fun k => ⟨upd (upd (upd (upd (upd (upd (fun _ => .top) 0 (.c (.int .i64 n))) 1 (.c (.sl (E.map cEd)))) 2 (.c (.int .i64 t))) 7 (.own 13)) 15 (.c (.int .i64 n))) 16 (.c (.int .i64 k)), upd Mem.nil 13 (some (.mrow 3 1 (rowK n k)))⟩) (fun k => k ≤ n) (fun k => n - k) 0 ?start (Nat.zero_le _) ?round
  case start =>
    refine le_mk ?sle ?mle ?swf ?mwf ?kept (by rfl)
    case kept => exact kept_not hkeep
    case swf => repeat (first | exact swf_top _ | refine swf_upd ?_ (by simp [A.ids, upd_app]))
    case mwf => repeat (first | exact mwf_nil _ | refine mwf_upd ?_ (by simp [A.ids, O.ids, upd_app]))
    case mle => repeat (first | exact mle_nil _ | exact mle_refl _ | refine mle_upd ?_ (by first | rfl | (simp only [upd_app, killM_app, Nat.reduceEqDiff, reduceIte]; done)))
    case sle => repeat (first | exact sle_top _ | exact sle_refl _ | refine sle_upd ?_ (by first | rfl | (simp only [upd_app, entry_zero, entry_succ, Nat.reduceEqDiff, reduceIte]; done)))
  case round =>
    intro k hk
    repeat (first | refine W.seq ?_ | refine W.block ?_ | refine W.skip ?_ | refine W.exit ?_ | refine W.region tab_ok 0 (by decide) (exec_run (by simp only [exa, beq_self_eq_true, ByteArray.size, Nat.reduceAdd, Nat.reduceLeDiff, Nat.reduceEqDiff, Nat.reduceMul, Int.reduceToNat, reduceIte, Int.reduceLE, Int.reduceNeg]; rfl)) ?_)
    refine W.cond rfl ?_ ?_
    · intro hlt
      simp only [decide_eq_true_eq, Int.ofNat_lt] at hlt
      repeat (first | refine W.seq ?_ | refine W.block ?_ | refine W.skip ?_ | refine W.exit ?_ | refine W.region tab_ok 0 (by decide) (exec_run (by simp only [exa, beq_self_eq_true, ByteArray.size, Nat.reduceAdd, Nat.reduceLeDiff, Nat.reduceEqDiff, Nat.reduceMul, Int.reduceToNat, reduceIte, Int.reduceLE, Int.reduceNeg, rowK_at hlt, rowK_len, hlt, Int.toNat_natCast, and_self]; rfl)) ?_)
      refine ⟨k + 1, hlt, by omega, ?_⟩
      refine le_mk ?sle ?mle ?swf ?mwf ?kept (by rfl)
      case kept => exact kept_not hkeep
      case swf => repeat (first | exact swf_top _ | refine swf_upd ?_ (by simp [A.ids, upd_app]))
      case mwf => repeat (first | exact mwf_nil _ | refine mwf_upd ?_ (by simp [A.ids, O.ids, upd_app]))
      case mle => repeat (first | exact mle_nil _ | exact mle_refl _ | refine mle_upd ?_ (by first | rfl | (simp only [upd_app, killM_app, Nat.reduceEqDiff, reduceIte, wrap_succ (show k + 1 < 9223372036854775808 by omega), rowK_set hlt]; done)))
      case sle => repeat (first | exact sle_top _ | exact sle_refl _ | refine sle_upd ?_ (by first | rfl | (simp only [upd_app, entry_zero, entry_succ, Nat.reduceEqDiff, reduceIte, wrap_succ (show k + 1 < 9223372036854775808 by omega), rowK_set hlt]; done)))
    · intro hge
      simp only [decide_eq_false_iff_not, Int.ofNat_lt] at hge
      obtain rfl : k = n := by omega
      rw [rowK_all]
      have h1 : (rowM k fun _ => 0).set t [C.int .i64 0] = rowM k (setF (fun _ => 0) t 1) := rowM_set (v := 1)
      repeat (first | refine W.seq ?_ | refine W.block ?_ | refine W.skip ?_ | refine W.exit ?_ | refine W.region tab_ok 0 (by decide) (exec_run (by simp only [exa, beq_self_eq_true, ByteArray.size, Nat.reduceAdd, Nat.reduceLeDiff, Nat.reduceEqDiff, Nat.reduceMul, Int.reduceToNat, reduceIte, Int.reduceLE, Int.reduceNeg, rowM_at ht, rowM_len, ht, ht0, Int.toNat_natCast, and_self, h1]; rfl)) ?_)
      refine W.loop (ι := Nat × (Nat → Nat)) (fun x => ⟨upd (upd (upd (upd (fun _ => .top) 0 (.c (.int .i64 k))) 1 (.c (.sl (E.map cEd)))) 7 (.own 13)) 9 (.c (.int .i64 x.1)), upd Mem.nil 13 (some (.mrow 3 1 (rowM k x.2)))⟩) (fun x => x.1 ≤ k ∧ FInv E t x.1 [] x.2) (fun x => k - x.1) (0, setF (fun _ => 0) t 1) ?start2 ⟨Nat.zero_le _, FInv.first⟩ ?round2
      case start2 =>
        refine le_mk ?sle ?mle ?swf ?mwf ?kept (by rfl)
        case kept => exact kept_not hkeep
        case swf => repeat (first | exact swf_top _ | refine swf_upd ?_ (by simp [A.ids, upd_app]))
        case mwf => repeat (first | exact mwf_nil _ | refine mwf_upd ?_ (by simp [A.ids, O.ids, upd_app]))
        case mle => repeat (first | exact mle_nil _ | exact mle_refl _ | refine mle_upd ?_ (by first | rfl | (simp only [upd_app, killM_app, Nat.reduceEqDiff, reduceIte]; done)))
        case sle => repeat (first | exact sle_top _ | exact sle_refl _ | refine sle_upd ?_ (by first | rfl | (simp only [upd_app, entry_zero, entry_succ, Nat.reduceEqDiff, reduceIte]; done)))
      case round2 =>
        rintro ⟨d, G⟩ ⟨hd, hinv⟩
        simp only at hd hinv
        repeat (first | refine W.seq ?_ | refine W.block ?_ | refine W.skip ?_ | refine W.exit ?_ | refine W.region tab_ok 0 (by decide) (exec_run (by simp only [exa, beq_self_eq_true, ByteArray.size, Nat.reduceAdd, Nat.reduceLeDiff, Nat.reduceEqDiff, Nat.reduceMul, Int.reduceToNat, reduceIte, Int.reduceLE, Int.reduceNeg]; rfl)) ?_)
        refine W.cond rfl ?_ ?_
        · intro hlt
          simp only [decide_eq_true_eq, Int.ofNat_lt] at hlt
          repeat (first | refine W.seq ?_ | refine W.block ?_ | refine W.skip ?_ | refine W.exit ?_ | refine W.region tab_ok 0 (by decide) (exec_run (by simp only [exa, beq_self_eq_true, ByteArray.size, Nat.reduceAdd, Nat.reduceLeDiff, Nat.reduceEqDiff, Nat.reduceMul, Int.reduceToNat, reduceIte, Int.reduceLE, Int.reduceNeg]; rfl)) ?_)
          refine W.loop (ι := Nat × (Nat → Nat)) (fun x => ⟨upd (upd (upd (upd (upd (upd (upd (fun _ => .top) 0 (.c (.int .i64 k))) 1 (.c (.sl (E.map cEd)))) 7 (.own 13)) 9 (.c (.int .i64 d))) 31 (.c (.sl (E.map cEd)))) 32 (.c (.int .i64 E.length))) 33 (.c (.int .i64 x.1)), upd Mem.nil 13 (some (.mrow 3 1 (rowM k x.2)))⟩) (fun x => x.1 ≤ E.length ∧ FInv E t d (E.take x.1) x.2) (fun x => E.length - x.1) (0, G) ?start3 ⟨Nat.zero_le _, hinv⟩ ?round3
          case start3 =>
            refine le_mk ?sle ?mle ?swf ?mwf ?kept (by rfl)
            case kept => exact kept_not hkeep
            case swf => repeat (first | exact swf_top _ | refine swf_upd ?_ (by simp [A.ids, upd_app]))
            case mwf => repeat (first | exact mwf_nil _ | refine mwf_upd ?_ (by simp [A.ids, O.ids, upd_app]))
            case mle => repeat (first | exact mle_nil _ | exact mle_refl _ | refine mle_upd ?_ (by first | rfl | (simp only [upd_app, killM_app, Nat.reduceEqDiff, reduceIte]; done)))
            case sle => repeat (first | exact sle_top _ | exact sle_refl _ | refine sle_upd ?_ (by first | rfl | (simp only [upd_app, entry_zero, entry_succ, Nat.reduceEqDiff, reduceIte]; done)))
          case round3 =>
            rintro ⟨j, G⟩ ⟨hj, hinv⟩
            simp only at hj hinv
            repeat (first | refine W.seq ?_ | refine W.block ?_ | refine W.skip ?_ | refine W.exit ?_ | refine W.region tab_ok 0 (by decide) (exec_run (by simp only [exa, beq_self_eq_true, ByteArray.size, Nat.reduceAdd, Nat.reduceLeDiff, Nat.reduceEqDiff, Nat.reduceMul, Int.reduceToNat, reduceIte, Int.reduceLE, Int.reduceNeg]; rfl)) ?_)
            refine W.cond rfl ?_ ?_
            · intro hlj
              simp only [decide_eq_true_eq, Int.ofNat_lt] at hlj
              obtain ⟨⟨a, b⟩, hx⟩ : ∃ x, E[j]? = some x := ⟨_, List.getElem?_eq_getElem hlj⟩
              obtain ⟨ha, hb⟩ := hE _ (List.mem_of_getElem? hx)
              replace ha : a < k := ha
              replace hb : b < k := hb
              have ha0 : (0 : Int) ≤ (a : Int) := by omega
              have hb0 : (0 : Int) ≤ (b : Int) := by omega
              have htk : E.take (j + 1) = E.take j ++ [(a, b)] := by rw [List.take_add_one, hx]; rfl
              by_cases h2 : (G b : Int) - 1 = d
              · repeat (first | refine W.seq ?_ | refine W.block ?_ | refine W.skip ?_ | refine W.exit ?_ | refine W.region tab_ok 0 (by decide) (exec_run (by simp only [exa, beq_self_eq_true, ByteArray.size, Nat.reduceAdd, Nat.reduceLeDiff, Nat.reduceEqDiff, Nat.reduceMul, Int.reduceToNat, reduceIte, Int.reduceLE, Int.reduceNeg, at_map hx, cEd, rowM_at ha, rowM_at hb, rowM_len, ha, hb, ha0, hb0, Int.toNat_natCast, and_self, h2]; rfl)) ?_)
                refine W.cond rfl ?_ ?_
                · intro h3
                  have h3 : G a = 0 := by simp only [decide_eq_true_eq] at h3; omega
                  have hs : (rowM k G).set a [C.int .i64 ((d : Int) + 1)] = rowM k (setF G a (d + 2)) := by
                    rw [← rowM_set]; congr 3; omega
                  have hw : IntKind.i64.wrap ((d : Int) + 1) = (d : Int) + 1 := by
                    have := wrap_succ (k := d) (by omega); rw [this]; omega
                  repeat (first | refine W.seq ?_ | refine W.block ?_ | refine W.skip ?_ | refine W.exit ?_ | refine W.region tab_ok 0 (by decide) (exec_run (by simp only [exa, beq_self_eq_true, ByteArray.size, Nat.reduceAdd, Nat.reduceLeDiff, Nat.reduceEqDiff, Nat.reduceMul, Int.reduceToNat, reduceIte, Int.reduceLE, Int.reduceNeg, rowM_at ha, rowM_len, ha, ha0, Int.toNat_natCast, and_self, hw, hs]; rfl)) ?_)
                  refine ⟨(j + 1, setF G a (d + 2)), ⟨hlj, ?_⟩, by simp only; omega, ?_⟩
                  · rw [htk]; exact hinv.set (List.mem_of_getElem? hx) (by omega) h3
                  refine le_mk ?sle ?mle ?swf ?mwf ?kept (by rfl)
                  case kept => exact kept_not hkeep
                  case swf => repeat (first | exact swf_top _ | refine swf_upd ?_ (by simp [A.ids, upd_app]))
                  case mwf => repeat (first | exact mwf_nil _ | refine mwf_upd ?_ (by simp [A.ids, O.ids, upd_app]))
                  case mle => repeat (first | exact mle_nil _ | exact mle_refl _ | refine mle_upd ?_ (by first | rfl | (simp only [upd_app, killM_app, Nat.reduceEqDiff, reduceIte, wrap_succ (show j + 1 < 9223372036854775808 by omega)]; done)))
                  case sle => repeat (first | exact sle_top _ | exact sle_refl _ | refine sle_upd ?_ (by first | rfl | (simp only [upd_app, entry_zero, entry_succ, Nat.reduceEqDiff, reduceIte, wrap_succ (show j + 1 < 9223372036854775808 by omega)]; done)))
                · intro h3
                  have h3 : G a ≠ 0 := by simp only [decide_eq_false_iff_not] at h3; omega
                  repeat (first | refine W.seq ?_ | refine W.block ?_ | refine W.skip ?_ | refine W.exit ?_ | refine W.region tab_ok 0 (by decide) (exec_run (by simp only [exa, beq_self_eq_true, ByteArray.size, Nat.reduceAdd, Nat.reduceLeDiff, Nat.reduceEqDiff, Nat.reduceMul, Int.reduceToNat, reduceIte, Int.reduceLE, Int.reduceNeg]; rfl)) ?_)
                  refine ⟨(j + 1, G), ⟨hlj, ?_⟩, by simp only; omega, ?_⟩
                  · rw [htk]; exact hinv.skip (fun q => h3 q.2)
                  refine le_mk ?sle ?mle ?swf ?mwf ?kept (by rfl)
                  case kept => exact kept_not hkeep
                  case swf => repeat (first | exact swf_top _ | refine swf_upd ?_ (by simp [A.ids, upd_app]))
                  case mwf => repeat (first | exact mwf_nil _ | refine mwf_upd ?_ (by simp [A.ids, O.ids, upd_app]))
                  case mle => repeat (first | exact mle_nil _ | exact mle_refl _ | refine mle_upd ?_ (by first | rfl | (simp only [upd_app, killM_app, Nat.reduceEqDiff, reduceIte, wrap_succ (show j + 1 < 9223372036854775808 by omega)]; done)))
                  case sle => repeat (first | exact sle_top _ | exact sle_refl _ | refine sle_upd ?_ (by first | rfl | (simp only [upd_app, entry_zero, entry_succ, Nat.reduceEqDiff, reduceIte, wrap_succ (show j + 1 < 9223372036854775808 by omega)]; done)))
              · repeat (first | refine W.seq ?_ | refine W.block ?_ | refine W.skip ?_ | refine W.exit ?_ | refine W.region tab_ok 0 (by decide) (exec_run (by simp only [exa, beq_self_eq_true, ByteArray.size, Nat.reduceAdd, Nat.reduceLeDiff, Nat.reduceEqDiff, Nat.reduceMul, Int.reduceToNat, reduceIte, Int.reduceLE, Int.reduceNeg, at_map hx, cEd, rowM_at ha, rowM_at hb, rowM_len, ha, hb, ha0, hb0, Int.toNat_natCast, and_self, h2]; rfl)) ?_)
                refine W.cond rfl ?_ ?_
                · intro h3; cases h3
                · intro _
                  repeat (first | refine W.seq ?_ | refine W.block ?_ | refine W.skip ?_ | refine W.exit ?_ | refine W.region tab_ok 0 (by decide) (exec_run (by simp only [exa, beq_self_eq_true, ByteArray.size, Nat.reduceAdd, Nat.reduceLeDiff, Nat.reduceEqDiff, Nat.reduceMul, Int.reduceToNat, reduceIte, Int.reduceLE, Int.reduceNeg]; rfl)) ?_)
                  refine ⟨(j + 1, G), ⟨hlj, ?_⟩, by simp only; omega, ?_⟩
                  · rw [htk]; exact hinv.skip (fun q => h2 (by omega))
                  refine le_mk ?sle ?mle ?swf ?mwf ?kept (by rfl)
                  case kept => exact kept_not hkeep
                  case swf => repeat (first | exact swf_top _ | refine swf_upd ?_ (by simp [A.ids, upd_app]))
                  case mwf => repeat (first | exact mwf_nil _ | refine mwf_upd ?_ (by simp [A.ids, O.ids, upd_app]))
                  case mle => repeat (first | exact mle_nil _ | exact mle_refl _ | refine mle_upd ?_ (by first | rfl | (simp only [upd_app, killM_app, Nat.reduceEqDiff, reduceIte, wrap_succ (show j + 1 < 9223372036854775808 by omega)]; done)))
                  case sle => repeat (first | exact sle_top _ | exact sle_refl _ | refine sle_upd ?_ (by first | rfl | (simp only [upd_app, entry_zero, entry_succ, Nat.reduceEqDiff, reduceIte, wrap_succ (show j + 1 < 9223372036854775808 by omega)]; done)))
            · intro hge
              simp only [decide_eq_false_iff_not, Int.ofNat_lt] at hge
              obtain rfl : j = E.length := by omega
              rw [List.take_length] at hinv
              repeat (first | refine W.seq ?_ | refine W.block ?_ | refine W.skip ?_ | refine W.exit ?_ | refine W.region tab_ok 0 (by decide) (exec_run (by simp only [exa, beq_self_eq_true, ByteArray.size, Nat.reduceAdd, Nat.reduceLeDiff, Nat.reduceEqDiff, Nat.reduceMul, Int.reduceToNat, reduceIte, Int.reduceLE, Int.reduceNeg]; rfl)) ?_)
              refine ⟨(d + 1, G), ⟨hlt, hinv.round⟩, by simp only; omega, ?_⟩
              refine le_mk ?sle ?mle ?swf ?mwf ?kept (by rfl)
              case kept => exact kept_not hkeep
              case swf => repeat (first | exact swf_top _ | refine swf_upd ?_ (by simp [A.ids, upd_app]))
              case mwf => repeat (first | exact mwf_nil _ | refine mwf_upd ?_ (by simp [A.ids, O.ids, upd_app]))
              case mle => repeat (first | exact mle_nil _ | exact mle_refl _ | refine mle_upd ?_ (by first | rfl | (simp only [upd_app, killM_app, Nat.reduceEqDiff, reduceIte, wrap_succ (show d + 1 < 9223372036854775808 by omega)]; done)))
              case sle => repeat (first | exact sle_top _ | exact sle_refl _ | refine sle_upd ?_ (by first | rfl | (simp only [upd_app, entry_zero, entry_succ, Nat.reduceEqDiff, reduceIte, wrap_succ (show d + 1 < 9223372036854775808 by omega)]; done)))
        · intro hge
          simp only [decide_eq_false_iff_not, Int.ofNat_lt] at hge
          obtain rfl : d = k := by omega
          repeat (first | refine W.seq ?_ | refine W.block ?_ | refine W.skip ?_ | refine W.exit ?_ | refine W.region tab_ok 0 (by decide) (exec_run (by simp only [exa, beq_self_eq_true, ByteArray.size, Nat.reduceAdd, Nat.reduceLeDiff, Nat.reduceEqDiff, Nat.reduceMul, Int.reduceToNat, reduceIte, Int.reduceLE, Int.reduceNeg]; rfl)) ?_)
          refine W.freeze 6 13 rfl rfl (nokeep hkeep) ?_
          refine W.ret ⟨.inr rfl, by rfl, ?_⟩
          simp only [Tryd.f40, resA, resOne, toT, fin, exa, beq_self_eq_true, ByteArray.size, Nat.reduceAdd, Nat.reduceLeDiff, Nat.reduceEqDiff, Nat.reduceMul, Int.reduceToNat, reduceIte, Int.reduceLE, Int.reduceNeg]
          rw [Far.uniq hF (fun i v => hinv.done hE ht i v)]
theorem least_lt {p : Nat → Prop} {r : Option Nat} (h : IsLeast p r) (hx : ∃ x, p x) : ∃ y, r = some y ∧ p y ∧ ∀ x, p x → y ≤ x := by
  obtain ⟨x, hx⟩ := hx
  cases r with
  | none => exact absurd hx (h x)
  | some y => exact ⟨y, rfl, h.1, h.2⟩
def moreO (o : Option Nat) (x : Nat) : Option Nat := match o with | none => some x | some y => some (if x < y then x else y)
def optI : Option Nat → Int
  | none => -1
  | some y => y
theorem refCheckN_ok {n : Nat} (hn : n ≤ 100000) {E : List (Nat × Nat)} (hlen : E.length ≤ 1000000) (hE : ∀ e ∈ E, e.1 < n ∧ e.2 < n) (m : Mem) : COk Tryd.prog 15 [.c (.int .i64 n), .c (.sl (E.map cEd))] m (.c (.int .i64 0)) := by
  have := refCheck_ok n (E.map castE) (by simp; omega) m
  rwa [cE_cast, chk_nat hn hE] at this
theorem nodesN_ok {n : Nat} {S : List Nat} (hlen : S.length ≤ 1000000000000) (hS : ∀ i ∈ S, i < n) (m : Mem) : COk Tryd.prog 33 [.c (.int .i64 n), .c (.sl (S.map cN))] m (.c (.bool true)) := by
  have := nodes_ok n (S.map fun i : Nat => (i : Int)) (by simpa using hlen) m
  rwa [cZ_cast, among_nat hS] at this
open Classical in
theorem far_exists (E : List (Nat × Nat)) (t : Nat) : ∃ F, Far E t F := by
  refine ⟨fun i => if h : ∃ v, Dst E t i v then Classical.choose h + 1 else 0, fun i v => ?_⟩
  dsimp only
  by_cases h : ∃ v, Dst E t i v
  · rw [dif_pos h]
    have hs := Classical.choose_spec h
    exact ⟨fun e => by rw [show v = Classical.choose h by omega]; exact hs, fun hd => by rw [hs.uniq hd]⟩
  · rw [dif_neg h]
    exact ⟨fun e => by omega, fun hd => absurd ⟨v, hd⟩ h⟩
set_option maxHeartbeats 4000000 in
theorem refPathG_ok (n : Nat) (hn : n ≤ 100000) (E : List (Nat × Nat)) (hlen : E.length ≤ 1000000) (hE : ∀ e ∈ E, e.1 < n ∧ e.2 < n) (f t : Nat) (hf : f < n) (ht : t < n) (r : List (Bool × List C))
    (hr : (∃ K, Dst E t f K ∧ r = [(false, [.sl ((pathN E t K f).map cN)]), (false, [.int .i64 0])]) ∨ ((¬ ∃ v, G.Way E t f v) ∧ r = [(false, [.sl []]), (false, [.int .i64 4])])) (m : Mem) :
    COk Tryd.prog 23 [.c (.int .i64 n), .c (.sl (E.map cEd)), .c (.int .i64 f), .c (.int .i64 t)] m (.tup r) := by
  have hf0 : (0 : Int) ≤ (f : Int) := by omega
  obtain ⟨F, hF⟩ := far_exists E t
  have hFn : ∀ a, F a ≤ n := fun a => by
    cases hFa : F a with
    | zero => omega
    | succ v => have := dst_lt hE ht ((hF a v).1 hFa); omega
  refine (ok_pure tab_ok Tryd.func23 (by kernel_rfl) rfl rfl (by rfl) (by rfl) (by rfl) (fun R hkeep => ?_) m)
  repeat (first | refine W.seq ?_ | refine W.block ?_ | refine W.skip ?_ | refine W.exit ?_ | refine W.region tab_ok 0 (by decide) (exec_run (by simp only [exa, beq_self_eq_true, ByteArray.size, Nat.reduceAdd, Nat.reduceLeDiff, Nat.reduceEqDiff, Nat.reduceMul, Int.reduceToNat, reduceIte, Int.reduceLE, Int.reduceNeg]; rfl)) ?_)
  refine W.regionK tab_ok 0 (by decide) ?_
  refine runk_split 2 (by simp only [exa, beq_self_eq_true, ByteArray.size, Nat.reduceAdd, Nat.reduceLeDiff, Nat.reduceEqDiff, Nat.reduceMul, Int.reduceToNat, reduceIte, Int.reduceLE, Int.reduceNeg]; rfl) ?_
  refine runk_call rfl rfl rfl rfl rfl (by simp) (cvs_cons cv_refl (cvs_cons cv_refl cvs_nil)) (refCheckN_ok hn hlen hE _) ?_
  refine runk_exec (by simp only [exa, beq_self_eq_true, ByteArray.size, Nat.reduceAdd, Nat.reduceLeDiff, Nat.reduceEqDiff, Nat.reduceMul, Int.reduceToNat, reduceIte, Int.reduceLE, Int.reduceNeg]; rfl) ?_
  repeat (first | refine W.seq ?_ | refine W.block ?_ | refine W.skip ?_ | refine W.exit ?_ | refine W.region tab_ok 0 (by decide) (exec_run (by simp only [exa, beq_self_eq_true, ByteArray.size, Nat.reduceAdd, Nat.reduceLeDiff, Nat.reduceEqDiff, Nat.reduceMul, Int.reduceToNat, reduceIte, Int.reduceLE, Int.reduceNeg]; rfl)) ?_)
  refine W.cond rfl ?_ ?_
  · intro h; cases h
  intro _
  repeat (first | refine W.seq ?_ | refine W.block ?_ | refine W.skip ?_ | refine W.exit ?_ | refine W.region tab_ok 0 (by decide) (exec_run (by simp only [exa, beq_self_eq_true, ByteArray.size, Nat.reduceAdd, Nat.reduceLeDiff, Nat.reduceEqDiff, Nat.reduceMul, Int.reduceToNat, reduceIte, Int.reduceLE, Int.reduceNeg]; rfl)) ?_)
  refine W.regionK tab_ok 0 (by decide) ?_
  refine runk_split 4 (by simp only [exa, beq_self_eq_true, ByteArray.size, Nat.reduceAdd, Nat.reduceLeDiff, Nat.reduceEqDiff, Nat.reduceMul, Int.reduceToNat, reduceIte, Int.reduceLE, Int.reduceNeg]; rfl) ?_
  refine runk_call rfl rfl rfl rfl rfl (by simp) (cvs_cons cv_refl (cvs_cons cv_refl cvs_nil)) (nodesN_ok (n := n) (S := [f, t]) (by simp) (by intro i hi; simp at hi; rcases hi with rfl | rfl <;> assumption) _) ?_
  refine runk_exec (by simp only [exa, beq_self_eq_true, ByteArray.size, Nat.reduceAdd, Nat.reduceLeDiff, Nat.reduceEqDiff, Nat.reduceMul, Int.reduceToNat, reduceIte, Int.reduceLE, Int.reduceNeg]; rfl) ?_
  refine W.cond rfl ?_ ?_
  · intro h; cases h
  intro _
  repeat (first | refine W.seq ?_ | refine W.block ?_ | refine W.skip ?_ | refine W.exit ?_ | refine W.region tab_ok 0 (by decide) (exec_run (by simp only [exa, beq_self_eq_true, ByteArray.size, Nat.reduceAdd, Nat.reduceLeDiff, Nat.reduceEqDiff, Nat.reduceMul, Int.reduceToNat, reduceIte, Int.reduceLE, Int.reduceNeg]; rfl)) ?_)
  refine W.regionK tab_ok 0 (by decide) ?_
  refine runk_split 3 (by simp only [exa, beq_self_eq_true, ByteArray.size, Nat.reduceAdd, Nat.reduceLeDiff, Nat.reduceEqDiff, Nat.reduceMul, Int.reduceToNat, reduceIte, Int.reduceLE, Int.reduceNeg]; rfl) ?_
  refine runk_call rfl rfl rfl rfl rfl (by simp) (cvs_cons cv_refl (cvs_cons cv_refl (cvs_cons cv_refl cvs_nil))) (far_ok n hn E hlen hE t ht F hF _) ?_
  refine runk_exec (by simp only [exa, beq_self_eq_true, ByteArray.size, Nat.reduceAdd, Nat.reduceLeDiff, Nat.reduceEqDiff, Nat.reduceMul, Int.reduceToNat, reduceIte, Int.reduceLE, Int.reduceNeg]; rfl) ?_
  repeat (first | refine W.seq ?_ | refine W.block ?_ | refine W.skip ?_ | refine W.exit ?_ | refine W.region tab_ok 0 (by decide) (exec_run (by simp only [exa, beq_self_eq_true, ByteArray.size, Nat.reduceAdd, Nat.reduceLeDiff, Nat.reduceEqDiff, Nat.reduceMul, Int.reduceToNat, reduceIte, Int.reduceLE, Int.reduceNeg, rowM_at hf, rowM_len, hf, hf0, Int.toNat_natCast, and_self]; rfl)) ?_)
  cases hFf : F f with
  | zero =>
    have hno : ¬ ∃ v, G.Way E t f v := fun ⟨v, hv⟩ => by
      obtain ⟨w, -, hw⟩ := dst_of hv
      have := (hF f w).2 hw; omega
    have hr' : r = [(false, [.sl []]), (false, [.int .i64 4])] := by
      rcases hr with ⟨K, hK, -⟩ | ⟨-, e⟩
      · exact absurd ⟨K, hK.1⟩ hno
      · exact e
    refine W.cond rfl ?_ ?_
    · intro _
      repeat (first | refine W.seq ?_ | refine W.block ?_ | refine W.skip ?_ | refine W.exit ?_ | refine W.region tab_ok 0 (by decide) (exec_run (by simp only [exa, beq_self_eq_true, ByteArray.size, Nat.reduceAdd, Nat.reduceLeDiff, Nat.reduceEqDiff, Nat.reduceMul, Int.reduceToNat, reduceIte, Int.reduceLE, Int.reduceNeg]; rfl)) ?_)
      refine W.ret ⟨.inr rfl, by rfl, ?_⟩
      simp only [Tryd.f23, resA, resOne, toT, fin, exa, beq_self_eq_true, ByteArray.size, Nat.reduceAdd, Nat.reduceLeDiff, Nat.reduceEqDiff, Nat.reduceMul, Int.reduceToNat, reduceIte, Int.reduceLE, Int.reduceNeg]
      rw [hr']
    · intro h; simp at h
  | succ K =>
    have hK : Dst E t f K := (hF f K).1 hFf
    have hr' : r = [(false, [.sl ((pathN E t K f).map cN)]), (false, [.int .i64 0])] := by
      rcases hr with ⟨K', hK', e⟩ | ⟨hno, -⟩
      · rw [hK.uniq hK']; exact e
      · exact absurd ⟨K, hK.1⟩ hno
    have hKn := dst_lt hE ht hK
    refine W.cond rfl ?_ ?_
    · intro h; simp at h; omega
    · intro _
      (repeat (first | refine W.seq ?_ | refine W.block ?_ | refine W.skip ?_ | refine W.exit ?_))
      refine W.region L.tab_ok 0 (by decide) (exec_run (by simp only [exa, beq_self_eq_true, ByteArray.size, Nat.reduceAdd, Nat.reduceLeDiff, Nat.reduceEqDiff, Nat.reduceMul, Int.reduceToNat, reduceIte, Int.reduceLE, Int.reduceNeg, L.tabs]; rfl)) ?_
      (repeat (first | refine W.seq ?_ | refine W.block ?_ | refine W.skip ?_ | refine W.exit ?_))
      refine W.loop (ι := Nat × Nat × List Nat) (fun x => ⟨upd (upd (upd (upd (upd (fun _ => .top) 1 (.c (.sl (E.map cEd)))) 2 (.c (.int .i64 x.1))) 3 (.c (.int .i64 t))) 11 (.c (.sl (rowM n F)))) 12 (.own 38),
          upd Mem.nil 38 (some (.mrow 3 1 ((x.2.2 ++ [x.1]).map cN)))⟩)
        (fun x => Dst E t x.1 x.2.1 ∧ x.1 < n ∧ pathN E t K f = x.2.2 ++ pathN E t x.2.1 x.1 ∧ x.2.2.length + x.2.1 = K) (fun x => x.2.1) (f, K, []) ?start ⟨hK, hf, rfl, by simp⟩ ?round
      case start =>
        refine le_mk ?sle ?mle ?swf ?mwf (kept_not hkeep) (by rfl)
        case swf => repeat (first | exact swf_top _ | refine swf_upd ?_ (by simp [A.ids, upd_app, cN, List.map_cons, List.map_nil, List.nil_append, List.set]))
        case mwf => repeat (first | exact mwf_nil _ | refine mwf_upd ?_ (by simp [A.ids, O.ids, upd_app, cN, List.map_cons, List.map_nil, List.nil_append, List.set]))
        case mle => repeat (first | exact mle_nil _ | exact mle_refl _ | refine mle_upd ?_ (by first | rfl | (simp only [upd_app, killM_app, O.kill, A.kill, Nat.reduceEqDiff, reduceIte, Option.map_some, Option.map_none, List.map_cons, List.map_nil, cN, List.map_cons, List.map_nil, List.nil_append, List.set]; done)))
        case sle => repeat (first | exact sle_top _ | exact sle_refl _ | refine sle_upd ?_ (by first | rfl | (simp only [upd_app, killS_app, A.kill, entry_zero, entry_succ, Nat.reduceEqDiff, reduceIte, cN, List.map_cons, List.map_nil, List.nil_append, List.set]; done)))
      case round =>
        rintro ⟨cur, k, pre⟩ ⟨hd, hcn, hp, hpl⟩
        simp only at hd hcn hp hpl
        have hc0 : (0 : Int) ≤ (cur : Int) := by omega
        repeat (first | refine W.seq ?_ | refine W.block ?_ | refine W.skip ?_ | refine W.exit ?_ | refine W.region tab_ok 0 (by decide) (exec_run (by simp only [exa, beq_self_eq_true, ByteArray.size, Nat.reduceAdd, Nat.reduceLeDiff, Nat.reduceEqDiff, Nat.reduceMul, Int.reduceToNat, reduceIte, Int.reduceLE, Int.reduceNeg]; rfl)) ?_)
        by_cases hct : cur = t
        · refine W.cond rfl ?_ ?_
          · intro h; simp [hct] at h
          · intro _
            repeat (first | refine W.seq ?_ | refine W.block ?_ | refine W.skip ?_ | refine W.exit ?_ | refine W.region tab_ok 0 (by decide) (exec_run (by simp only [exa, beq_self_eq_true, ByteArray.size, Nat.reduceAdd, Nat.reduceLeDiff, Nat.reduceEqDiff, Nat.reduceMul, Int.reduceToNat, reduceIte, Int.reduceLE, Int.reduceNeg]; rfl)) ?_)
            obtain rfl : k = 0 := hd.uniq (dst_zero.2 hct)
            refine W.freeze 8 38 rfl (by simp only [exa, beq_self_eq_true, ByteArray.size, Nat.reduceAdd, Nat.reduceLeDiff, Nat.reduceEqDiff, Nat.reduceMul, Int.reduceToNat, reduceIte, Int.reduceLE, Int.reduceNeg]; rfl) (nokeep hkeep) ?_
            refine W.ret ⟨.inr rfl, by rfl, ?_⟩
            simp only [Tryd.f23, resA, resOne, toT, fin, exa, beq_self_eq_true, ByteArray.size, Nat.reduceAdd, Nat.reduceLeDiff, Nat.reduceEqDiff, Nat.reduceMul, Int.reduceToNat, reduceIte, Int.reduceLE, Int.reduceNeg]
            rw [hr', hp]
            rfl
        · refine W.cond rfl ?_ ?_
          · intro _
            obtain ⟨k, rfl⟩ : ∃ k', k = k' + 1 := by
              cases k with
              | zero => exact absurd (dst_zero.1 hd) hct
              | succ k => exact ⟨k, rfl⟩
            have hFc : F cur = k + 1 + 1 := (hF cur (k + 1)).2 hd
            have hwc : IntKind.i64.wrap ((F cur : Int) - 1 - 1) = (k : Int) := by
              rw [hFc, show (((k + 1 + 1 : Nat) : Int) - 1 - 1) = (k : Int) by omega]; exact wrap_nat (by omega)
            repeat (first | refine W.seq ?_ | refine W.block ?_ | refine W.skip ?_ | refine W.exit ?_ | refine W.region tab_ok 0 (by decide) (exec_run (by simp only [exa, beq_self_eq_true, ByteArray.size, Nat.reduceAdd, Nat.reduceLeDiff, Nat.reduceEqDiff, Nat.reduceMul, Int.reduceToNat, reduceIte, Int.reduceLE, Int.reduceNeg]; rfl)) ?_)
            refine W.loop (ι := Nat × Option Nat) (fun x => ⟨upd (upd (upd (upd (upd (upd (upd (upd (upd (fun _ => .top) 1 (.c (.sl (E.map cEd)))) 2 (.c (.int .i64 cur))) 3 (.c (.int .i64 t))) 11 (.c (.sl (rowM n F)))) 12 (.own 38)) 13 (.c (.int .i64 (optI x.2)))) 42 (.c (.sl (E.map cEd)))) 43 (.c (.int .i64 E.length))) 44 (.c (.int .i64 x.1)),
                upd Mem.nil 38 (some (.mrow 3 1 ((pre ++ [cur]).map cN)))⟩)
              (fun x => x.1 ≤ E.length ∧ IsLeast (fun y => (cur, y) ∈ E.take x.1 ∧ Dst E t y k) x.2 ∧ ∀ y, x.2 = some y → y < n) (fun x => E.length - x.1) (0, none) ?start2 ⟨Nat.zero_le _, IsLeast.none_ (fun x hx => by simp at hx), fun y hy => by cases hy⟩ ?round2
            case start2 =>
              refine le_mk ?sle ?mle ?swf ?mwf (kept_not hkeep) (by rfl)
              case swf => repeat (first | exact swf_top _ | refine swf_upd ?_ (by simp [A.ids, upd_app, optI]))
              case mwf => repeat (first | exact mwf_nil _ | refine mwf_upd ?_ (by simp [A.ids, O.ids, upd_app, optI]))
              case mle => repeat (first | exact mle_nil _ | exact mle_refl _ | refine mle_upd ?_ (by first | rfl | (simp only [upd_app, killM_app, O.kill, A.kill, Nat.reduceEqDiff, reduceIte, Option.map_some, Option.map_none, List.map_cons, List.map_nil, optI]; done)))
              case sle => repeat (first | exact sle_top _ | exact sle_refl _ | refine sle_upd ?_ (by first | rfl | (simp only [upd_app, killS_app, A.kill, entry_zero, entry_succ, Nat.reduceEqDiff, reduceIte, optI]; done)))
            case round2 =>
              rintro ⟨j, o⟩ ⟨hj, hl, ho⟩
              simp only at hj hl ho
              repeat (first | refine W.seq ?_ | refine W.block ?_ | refine W.skip ?_ | refine W.exit ?_ | refine W.region tab_ok 0 (by decide) (exec_run (by simp only [exa, beq_self_eq_true, ByteArray.size, Nat.reduceAdd, Nat.reduceLeDiff, Nat.reduceEqDiff, Nat.reduceMul, Int.reduceToNat, reduceIte, Int.reduceLE, Int.reduceNeg]; rfl)) ?_)
              refine W.cond rfl ?_ ?_
              · intro hlj
                simp only [decide_eq_true_eq, Int.ofNat_lt] at hlj
                obtain ⟨⟨a, b⟩, hx⟩ : ∃ x, E[j]? = some x := ⟨_, List.getElem?_eq_getElem hlj⟩
                obtain ⟨ha, hb⟩ := hE _ (List.mem_of_getElem? hx)
                replace ha : a < n := ha
                replace hb : b < n := hb
                have hb0 : (0 : Int) ≤ (b : Int) := by omega
                have htk : E.take (j + 1) = E.take j ++ [(a, b)] := by rw [List.take_add_one, hx]; rfl
                have hskip : ¬ (a = cur ∧ Dst E t b k) → IsLeast (fun y => (cur, y) ∈ E.take (j + 1) ∧ Dst E t y k) o := fun hn => by
                  refine hl.same fun y => ?_
                  rw [htk, List.mem_append, List.mem_singleton, Prod.mk.injEq]
                  constructor
                  · rintro ⟨h1 | ⟨h1, h2⟩, h3⟩
                    · exact ⟨h1, h3⟩
                    · exact absurd ⟨h1.symm, h2 ▸ h3⟩ hn
                  · rintro ⟨h1, h3⟩; exact ⟨.inl h1, h3⟩
                have hmore : a = cur → Dst E t b k → IsLeast (fun y => (cur, y) ∈ E.take (j + 1) ∧ Dst E t y k) (moreO o b) := fun h1 h2 => by
                  have key := IsLeast.more (x := b) (q := fun y => (cur, y) ∈ E.take (j + 1) ∧ Dst E t y k) hl (fun y => ?_)
                  · cases o <;> exact key
                  rw [htk, List.mem_append, List.mem_singleton, Prod.mk.injEq]
                  constructor
                  · rintro ⟨h3 | ⟨-, h4⟩, h5⟩
                    · exact .inl ⟨h3, h5⟩
                    · exact .inr h4
                  · rintro (⟨h3, h4⟩ | rfl)
                    · exact ⟨.inl h3, h4⟩
                    · exact ⟨.inr ⟨h1.symm, rfl⟩, h2⟩
                (repeat (first | refine W.seq ?_ | refine W.block ?_ | refine W.skip ?_ | refine W.exit ?_))
                refine W.region tab_ok 0 (by decide) (exec_run (by simp only [exa, beq_self_eq_true, ByteArray.size, Nat.reduceAdd, Nat.reduceLeDiff, Nat.reduceEqDiff, Nat.reduceMul, Int.reduceToNat, reduceIte, Int.reduceLE, Int.reduceNeg, at_map hx, cEd]; rfl)) ?_
                (repeat (first | refine W.seq ?_ | refine W.block ?_ | refine W.skip ?_ | refine W.exit ?_))
                refine W.regionDK tab_ok 0 follows_mixed (by kernel_rfl) (by decide) ?_
                have hok : ∀ y, moreO o b = some y → y < n := fun y hy => by
                  cases o with
                  | none => simp only [moreO, Option.some.injEq] at hy; omega
                  | some z =>
                    have := ho z rfl
                    simp only [moreO, Option.some.injEq] at hy
                    split at hy <;> omega
                by_cases c1 : a = cur
                · subst c1
                  by_cases c2 : (F b : Int) - 1 = k
                  · have hbd : Dst E t b k := (hF b k).1 (by omega)
                    have c3 : (0 : Int) ≤ (F b : Int) - 1 := by omega
                    have c3' : (0 : Int) ≤ (k : Int) := by omega
                    cases o with
                    | none =>
                      refine runk_exec (by simp only [exa, beq_self_eq_true, ByteArray.size, Nat.reduceAdd, Nat.reduceLeDiff, Nat.reduceEqDiff, Nat.reduceMul, Int.reduceToNat, reduceIte, Int.reduceLE, Int.reduceNeg, rowM_at hcn, rowM_at hb, rowM_len, hcn, hb, hc0, hb0, hwc, c2, c3, c3', Int.toNat_natCast, and_self, eq_self, optI]; rfl) ?_
                      refine W.cond rfl ?_ ?_
                      · intro _
                        repeat (first | refine W.seq ?_ | refine W.block ?_ | refine W.skip ?_ | refine W.exit ?_ | refine W.region tab_ok 0 (by decide) (exec_run (by simp only [exa, beq_self_eq_true, ByteArray.size, Nat.reduceAdd, Nat.reduceLeDiff, Nat.reduceEqDiff, Nat.reduceMul, Int.reduceToNat, reduceIte, Int.reduceLE, Int.reduceNeg]; rfl)) ?_)
                        refine ⟨(j + 1, some b), ⟨hlj, hmore rfl hbd, hok⟩, by simp only; omega, ?_⟩
                        refine le_mk ?sle ?mle ?swf ?mwf (kept_not hkeep) (by rfl)
                        case swf => repeat (first | exact swf_top _ | refine swf_upd ?_ (by simp [A.ids, upd_app, optI, wrap_succ (show j + 1 < 9223372036854775808 by omega)]))
                        case mwf => repeat (first | exact mwf_nil _ | refine mwf_upd ?_ (by simp [A.ids, O.ids, upd_app, optI, wrap_succ (show j + 1 < 9223372036854775808 by omega)]))
                        case mle => repeat (first | exact mle_nil _ | exact mle_refl _ | refine mle_upd ?_ (by first | rfl | (simp only [upd_app, killM_app, O.kill, A.kill, Nat.reduceEqDiff, reduceIte, Option.map_some, Option.map_none, List.map_cons, List.map_nil, optI, wrap_succ (show j + 1 < 9223372036854775808 by omega)]; done)))
                        case sle => repeat (first | exact sle_top _ | exact sle_refl _ | refine sle_upd ?_ (by first | rfl | (simp only [upd_app, killS_app, A.kill, entry_zero, entry_succ, Nat.reduceEqDiff, reduceIte, optI, wrap_succ (show j + 1 < 9223372036854775808 by omega)]; done)))
                      · intro h; cases h
                    | some y =>
                      have c4 : ¬ ((y : Int) < 0) := by omega
                      refine runk_exec (by simp only [exa, beq_self_eq_true, ByteArray.size, Nat.reduceAdd, Nat.reduceLeDiff, Nat.reduceEqDiff, Nat.reduceMul, Int.reduceToNat, reduceIte, Int.reduceLE, Int.reduceNeg, rowM_at hcn, rowM_at hb, rowM_len, hcn, hb, hc0, hb0, hwc, c2, c3, c3', c4, Int.toNat_natCast, and_self, eq_self, optI]; rfl) ?_
                      refine W.cond rfl ?_ ?_
                      · intro h5
                        have h5 : b < y := by simp only [decide_eq_true_eq] at h5; omega
                        repeat (first | refine W.seq ?_ | refine W.block ?_ | refine W.skip ?_ | refine W.exit ?_ | refine W.region tab_ok 0 (by decide) (exec_run (by simp only [exa, beq_self_eq_true, ByteArray.size, Nat.reduceAdd, Nat.reduceLeDiff, Nat.reduceEqDiff, Nat.reduceMul, Int.reduceToNat, reduceIte, Int.reduceLE, Int.reduceNeg]; rfl)) ?_)
                        refine ⟨(j + 1, some b), ⟨hlj, by have := hmore rfl hbd; rwa [moreO, if_pos h5] at this, fun z hz => by cases hz; exact hb⟩, by simp only; omega, ?_⟩
                        refine le_mk ?sle ?mle ?swf ?mwf (kept_not hkeep) (by rfl)
                        case swf => repeat (first | exact swf_top _ | refine swf_upd ?_ (by simp [A.ids, upd_app, optI, wrap_succ (show j + 1 < 9223372036854775808 by omega)]))
                        case mwf => repeat (first | exact mwf_nil _ | refine mwf_upd ?_ (by simp [A.ids, O.ids, upd_app, optI, wrap_succ (show j + 1 < 9223372036854775808 by omega)]))
                        case mle => repeat (first | exact mle_nil _ | exact mle_refl _ | refine mle_upd ?_ (by first | rfl | (simp only [upd_app, killM_app, O.kill, A.kill, Nat.reduceEqDiff, reduceIte, Option.map_some, Option.map_none, List.map_cons, List.map_nil, optI, wrap_succ (show j + 1 < 9223372036854775808 by omega)]; done)))
                        case sle => repeat (first | exact sle_top _ | exact sle_refl _ | refine sle_upd ?_ (by first | rfl | (simp only [upd_app, killS_app, A.kill, entry_zero, entry_succ, Nat.reduceEqDiff, reduceIte, optI, wrap_succ (show j + 1 < 9223372036854775808 by omega)]; done)))
                      · intro h5
                        have h5 : ¬ b < y := by simp only [decide_eq_false_iff_not] at h5; omega
                        repeat (first | refine W.seq ?_ | refine W.block ?_ | refine W.skip ?_ | refine W.exit ?_ | refine W.region tab_ok 0 (by decide) (exec_run (by simp only [exa, beq_self_eq_true, ByteArray.size, Nat.reduceAdd, Nat.reduceLeDiff, Nat.reduceEqDiff, Nat.reduceMul, Int.reduceToNat, reduceIte, Int.reduceLE, Int.reduceNeg]; rfl)) ?_)
                        refine ⟨(j + 1, some y), ⟨hlj, by have := hmore rfl hbd; rwa [moreO, if_neg h5] at this, ho⟩, by simp only; omega, ?_⟩
                        refine le_mk ?sle ?mle ?swf ?mwf (kept_not hkeep) (by rfl)
                        case swf => repeat (first | exact swf_top _ | refine swf_upd ?_ (by simp [A.ids, upd_app, optI, wrap_succ (show j + 1 < 9223372036854775808 by omega)]))
                        case mwf => repeat (first | exact mwf_nil _ | refine mwf_upd ?_ (by simp [A.ids, O.ids, upd_app, optI, wrap_succ (show j + 1 < 9223372036854775808 by omega)]))
                        case mle => repeat (first | exact mle_nil _ | exact mle_refl _ | refine mle_upd ?_ (by first | rfl | (simp only [upd_app, killM_app, O.kill, A.kill, Nat.reduceEqDiff, reduceIte, Option.map_some, Option.map_none, List.map_cons, List.map_nil, optI, wrap_succ (show j + 1 < 9223372036854775808 by omega)]; done)))
                        case sle => repeat (first | exact sle_top _ | exact sle_refl _ | refine sle_upd ?_ (by first | rfl | (simp only [upd_app, killS_app, A.kill, entry_zero, entry_succ, Nat.reduceEqDiff, reduceIte, optI, wrap_succ (show j + 1 < 9223372036854775808 by omega)]; done)))
                  · refine runk_exec (by simp only [exa, beq_self_eq_true, ByteArray.size, Nat.reduceAdd, Nat.reduceLeDiff, Nat.reduceEqDiff, Nat.reduceMul, Int.reduceToNat, reduceIte, Int.reduceLE, Int.reduceNeg, rowM_at hcn, rowM_at hb, rowM_len, hcn, hb, hc0, hb0, hwc, c2, Int.toNat_natCast, and_self, eq_self]; rfl) ?_
                    refine W.cond rfl ?_ ?_
                    · intro h; cases h
                    · intro _
                      repeat (first | refine W.seq ?_ | refine W.block ?_ | refine W.skip ?_ | refine W.exit ?_ | refine W.region tab_ok 0 (by decide) (exec_run (by simp only [exa, beq_self_eq_true, ByteArray.size, Nat.reduceAdd, Nat.reduceLeDiff, Nat.reduceEqDiff, Nat.reduceMul, Int.reduceToNat, reduceIte, Int.reduceLE, Int.reduceNeg]; rfl)) ?_)
                      refine ⟨(j + 1, o), ⟨hlj, hskip (fun q => c2 (by have := (hF b k).2 q.2; omega)), ho⟩, by simp only; omega, ?_⟩
                      refine le_mk ?sle ?mle ?swf ?mwf (kept_not hkeep) (by rfl)
                      case swf => repeat (first | exact swf_top _ | refine swf_upd ?_ (by simp [A.ids, upd_app, wrap_succ (show j + 1 < 9223372036854775808 by omega)]))
                      case mwf => repeat (first | exact mwf_nil _ | refine mwf_upd ?_ (by simp [A.ids, O.ids, upd_app, wrap_succ (show j + 1 < 9223372036854775808 by omega)]))
                      case mle => repeat (first | exact mle_nil _ | exact mle_refl _ | refine mle_upd ?_ (by first | rfl | (simp only [upd_app, killM_app, O.kill, A.kill, Nat.reduceEqDiff, reduceIte, Option.map_some, Option.map_none, List.map_cons, List.map_nil, wrap_succ (show j + 1 < 9223372036854775808 by omega)]; done)))
                      case sle => repeat (first | exact sle_top _ | exact sle_refl _ | refine sle_upd ?_ (by first | rfl | (simp only [upd_app, killS_app, A.kill, entry_zero, entry_succ, Nat.reduceEqDiff, reduceIte, wrap_succ (show j + 1 < 9223372036854775808 by omega)]; done)))
                · have c1' : ¬ (a : Int) = (cur : Int) := by omega
                  refine runk_exec (by simp only [exa, beq_self_eq_true, ByteArray.size, Nat.reduceAdd, Nat.reduceLeDiff, Nat.reduceEqDiff, Nat.reduceMul, Int.reduceToNat, reduceIte, Int.reduceLE, Int.reduceNeg, c1']; rfl) ?_
                  refine W.cond rfl ?_ ?_
                  · intro h; cases h
                  · intro _
                    repeat (first | refine W.seq ?_ | refine W.block ?_ | refine W.skip ?_ | refine W.exit ?_ | refine W.region tab_ok 0 (by decide) (exec_run (by simp only [exa, beq_self_eq_true, ByteArray.size, Nat.reduceAdd, Nat.reduceLeDiff, Nat.reduceEqDiff, Nat.reduceMul, Int.reduceToNat, reduceIte, Int.reduceLE, Int.reduceNeg]; rfl)) ?_)
                    refine ⟨(j + 1, o), ⟨hlj, hskip (fun q => c1 q.1), ho⟩, by simp only; omega, ?_⟩
                    refine le_mk ?sle ?mle ?swf ?mwf (kept_not hkeep) (by rfl)
                    case swf => repeat (first | exact swf_top _ | refine swf_upd ?_ (by simp [A.ids, upd_app, wrap_succ (show j + 1 < 9223372036854775808 by omega)]))
                    case mwf => repeat (first | exact mwf_nil _ | refine mwf_upd ?_ (by simp [A.ids, O.ids, upd_app, wrap_succ (show j + 1 < 9223372036854775808 by omega)]))
                    case mle => repeat (first | exact mle_nil _ | exact mle_refl _ | refine mle_upd ?_ (by first | rfl | (simp only [upd_app, killM_app, O.kill, A.kill, Nat.reduceEqDiff, reduceIte, Option.map_some, Option.map_none, List.map_cons, List.map_nil, wrap_succ (show j + 1 < 9223372036854775808 by omega)]; done)))
                    case sle => repeat (first | exact sle_top _ | exact sle_refl _ | refine sle_upd ?_ (by first | rfl | (simp only [upd_app, killS_app, A.kill, entry_zero, entry_succ, Nat.reduceEqDiff, reduceIte, wrap_succ (show j + 1 < 9223372036854775808 by omega)]; done)))
              · intro hge
                simp only [decide_eq_false_iff_not, Int.ofNat_lt] at hge
                obtain rfl : j = E.length := by omega
                rw [List.take_length] at hl
                obtain ⟨y, rfl, ⟨hye, hyd⟩, hyl⟩ := least_lt hl hd.next
                have hyn := ho y rfl
                have hnx : nextN E t k cur = y := nextN_eq hye hyd (fun z hz hzd => hyl z ⟨hz, hzd⟩)
                (repeat (first | refine W.seq ?_ | refine W.block ?_ | refine W.skip ?_ | refine W.exit ?_))
                refine W.region tab_ok 0 (by decide) (exec_run (by simp only [exa, beq_self_eq_true, ByteArray.size, Nat.reduceAdd, Nat.reduceLeDiff, Nat.reduceEqDiff, Nat.reduceMul, Int.reduceToNat, reduceIte, Int.reduceLE, Int.reduceNeg, optI]; rfl)) ?_
                (repeat (first | refine W.seq ?_ | refine W.block ?_ | refine W.skip ?_ | refine W.exit ?_))
                refine W.regionK tab_ok 0 (by decide) ?_
                refine runk_split 3 (by simp only [exa, beq_self_eq_true, ByteArray.size, Nat.reduceAdd, Nat.reduceLeDiff, Nat.reduceEqDiff, Nat.reduceMul, Int.reduceToNat, reduceIte, Int.reduceLE, Int.reduceNeg]; rfl) ?_
                refine runk_appendM tab_ok 38 rfl rfl rfl rfl rfl rfl (by simp only [exa, beq_self_eq_true, ByteArray.size, Nat.reduceAdd, Nat.reduceLeDiff, Nat.reduceEqDiff, Nat.reduceMul, Int.reduceToNat, reduceIte, Int.reduceLE, Int.reduceNeg]) (by simp only [exa, beq_self_eq_true, ByteArray.size, Nat.reduceAdd, Nat.reduceLeDiff, Nat.reduceEqDiff, Nat.reduceMul, Int.reduceToNat, reduceIte, Int.reduceLE, Int.reduceNeg]; rfl) (by first | rfl | (simp only [exa, beq_self_eq_true, ByteArray.size, Nat.reduceAdd, Nat.reduceLeDiff, Nat.reduceEqDiff, Nat.reduceMul, Int.reduceToNat, reduceIte, Int.reduceLE, Int.reduceNeg]; rfl)) rfl rfl rfl rfl (nokeep hkeep) (fun z hz => by simp at hz; subst hz; rfl) (by simp only [List.length_map, List.length_append, List.length_cons, List.length_nil]; omega) (by decide) ?_
                refine runk_exec (by simp only [exa, beq_self_eq_true, ByteArray.size, Nat.reduceAdd, Nat.reduceLeDiff, Nat.reduceEqDiff, Nat.reduceMul, Int.reduceToNat, reduceIte, Int.reduceLE, Int.reduceNeg]; rfl) ?_
                refine ⟨(y, k, pre ++ [cur]), ⟨hyd, hyn, ?_, by simp only [List.length_append, List.length_cons, List.length_nil]; omega⟩, by simp only; omega, ?_⟩
                · rw [hp]; simp [pathN, hnx]
                refine le_mk ?sle ?mle ?swf ?mwf (kept_not hkeep) (by rfl)
                case swf => repeat (first | exact swf_top _ | refine swf_upd ?_ (by simp [A.ids, upd_app, cN, List.map_append, List.map_cons, List.map_nil]))
                case mwf => repeat (first | exact mwf_nil _ | refine mwf_upd ?_ (by simp [A.ids, O.ids, upd_app, cN, List.map_append, List.map_cons, List.map_nil]))
                case mle => repeat (first | exact mle_nil _ | exact mle_refl _ | refine mle_upd ?_ (by first | rfl | (simp only [upd_app, killM_app, O.kill, A.kill, Nat.reduceEqDiff, reduceIte, Option.map_some, Option.map_none, List.map_cons, List.map_nil, cN, List.map_append, List.map_cons, List.map_nil]; done)))
                case sle => repeat (first | exact sle_top _ | exact sle_refl _ | refine sle_upd ?_ (by first | rfl | (simp only [upd_app, killS_app, A.kill, entry_zero, entry_succ, Nat.reduceEqDiff, reduceIte, cN, List.map_append, List.map_cons, List.map_nil]; done)))
          · intro h; simp at h; omega
end V
end Go.Proofs.YtknmcmfdbfhadaaDoor
end
