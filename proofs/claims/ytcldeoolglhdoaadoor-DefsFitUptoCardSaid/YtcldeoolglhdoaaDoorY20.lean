/- Joined by my own program, in build order: Us, Gd, L18, Rdb, LawUses18, LawOf18, Fit, LawFit18, Met. -/
import Derived.Test.YtcldeoolglhdoaaDoorY19
import Derived.Test.YtcldeoolglhdoaaDoorY18
import Derived.Test.YtcldeoolglhdoaaDoorY17
set_option linter.unusedVariables false
set_option linter.unusedSimpArgs false
section
set_option linter.unusedVariables false
set_option linter.unusedSimpArgs false
namespace Go.Proofs.YtcldeoolglhdoaaDoor
namespace V
open Go.RowKit G C17 D18
section
variable {P : Go.Program} {T : Tab} {kp : Nat → Prop} {base : Nat} {ops : Array Oper} {K : St → Prop}
theorem step_call {f' i : Nat} {listed : Array Bool} {st : St} {rl : List Nat} {o : Oper} (ho : ops[i]? = some o) {r : A} {c : Call} {x : Operand} {f : FuncId} {args : List A} {M' : Mem} (hop : o.op = .call c) (hc : c.callee = .value x) (hbar : kind T o.op = .barrier) (hx : ev st.s x = .fn f []) (h : wantA ops o st.s = some true) (hag : c.args.toList.map (ev st.s) = args) {d : Nat} (hd : o.dst = some d)
    (ha : Cvs st.m args args) (hk : CallE P f args st.m [] r M') (hr : RunsW P T kp base ops K f' (listed.setIfInBounds i true) ⟨upd st.s d r, M'⟩) (tl : Steps P T kp base ops K f' listed st rl) : Steps P T kp base ops K f' listed st (i :: rl) :=
  ⟨⟨o, ⟨putS st.s o.dst r, M'⟩, ho, .eff (eff_call (D := []) (ids := []) (fun j hj => by cases hj) hbar h hop hc hx (fun j hj => by cases hj) (by rw [List.map_nil, List.append_nil, hag]; exact ha) hk), by rw [hd]; exact hr⟩, tl⟩
end
def inP (n k : Nat) : List A1 := (List.range n).map fun i => if i < k then A1.ptr (sN i) 0 else .nilv (.pointer none)
theorem inP_len (n k : Nat) : (inP n k).length = n := by simp [inP]
theorem inP_zero (n : Nat) : List.replicate n (A1.nilv (.pointer none)) = inP n 0 := by
  refine List.ext_getElem? fun i => ?_
  unfold inP
  by_cases h : i < n
  · simp [h]
  · rw [List.getElem?_eq_none (by simpa using h), List.getElem?_eq_none (by simpa using h)]
theorem inP_set {n k : Nat} (h : k < n) : (inP n k).set k (.ptr (sN k) 0) = inP n (k + 1) := by
  refine List.ext_getElem? fun i => ?_
  rw [List.getElem?_set, inP_len]
  unfold inP
  by_cases hi : i < n
  · by_cases e : k = i
    · subst e; simp [h]
    · rw [if_neg e]
      have : (i < k + 1) ↔ (i < k) := by omega
      simp [hi, this]
  · rw [if_neg (by omega), List.getElem?_eq_none (by simpa using hi), List.getElem?_eq_none (by simpa using hi)]
theorem inP_all (n : Nat) : inP n n = inL n := by
  unfold inP inL
  refine List.map_congr_left fun i hi => ?_
  rw [if_pos (List.mem_range.1 hi)]
def noF : Nat → Nat → Bool := fun _ _ => false
theorem setF_noF (k : Nat) : setF noF k (fun _ => false) = noF := by
  funext i x; unfold setF noF; split <;> rfl
theorem ownL_succ {rg n d r : Nat} (h : (r : Int) = (rg : Int) - 1 - d) : putE (A1.c (.int .i64 (r : Int))) (A1.ptr (sN (n + d)) 0) (ownL rg n d) none = ownL rg n (d + 1) := by
  unfold putE ownL
  rw [List.range_succ, List.map_append, h]; rfl
open Classical in
noncomputable def FB (code : List Ins) (rg d : Nat) : Nat → Nat → Bool := fun k x => if k < code.length then false else decide (x < d ∧ rgD code rg x = some (rg - 1 - (k - code.length)))
theorem FB_iff {code : List Ins} {rg d e x : Nat} : FB code rg d (code.length + e) x = true ↔ x < d ∧ rgD code rg x = some (rg - 1 - e) := by
  unfold FB
  rw [if_neg (by omega), Nat.add_sub_cancel_left]
  simp
theorem FB_in {code : List Ins} {rg d k : Nat} (h : k < code.length) : FB code rg d k = fun _ => false := by
  unfold FB; funext x; rw [if_pos h]
theorem FB_zero {code : List Ins} {rg k : Nat} : FB code rg 0 k = fun _ => false := by
  unfold FB; funext x; split <;> simp
theorem rgD_lo {code : List Ins} {rg x : Nat} (h : x < rg) : rgD code rg x = some (rg - 1 - x) := by unfold rgD; rw [if_pos h]
theorem FB_none {code : List Ins} {rg d : Nat} (h : rgD code rg d = none) (k : Nat) : FB code rg (d + 1) k = FB code rg d k := by
  by_cases hk : k < code.length
  · rw [FB_in hk, FB_in hk]
  · obtain ⟨e, rfl⟩ : ∃ e, k = code.length + e := ⟨k - code.length, by omega⟩
    funext x
    rw [Bool.eq_iff_iff, FB_iff, FB_iff]
    refine ⟨fun ⟨h1, h2⟩ => ⟨?_, h2⟩, fun ⟨h1, h2⟩ => ⟨by omega, h2⟩⟩
    by_cases e : x = d
    · subst e; rw [h] at h2; cases h2
    · omega
theorem FB_some {code : List Ins} {rg d r : Nat} (hr : r < rg) (h : rgD code rg d = some r) {k : Nat} (hk : k < code.length + rg) : setF (FB code rg d) (code.length + (rg - 1 - r)) (addF (FB code rg d (code.length + (rg - 1 - r))) d) k = FB code rg (d + 1) k := by
  by_cases e : k = code.length + (rg - 1 - r)
  · subst e
    rw [setF_self]
    funext x
    rw [Bool.eq_iff_iff, FB_iff, show rg - 1 - (rg - 1 - r) = r by omega]
    unfold addF
    rw [Bool.or_eq_true, FB_iff, show rg - 1 - (rg - 1 - r) = r by omega, decide_eq_true_eq]
    constructor
    · rintro (⟨h1, h2⟩ | rfl)
      · exact ⟨by omega, h2⟩
      · exact ⟨by omega, h⟩
    · rintro ⟨h1, h2⟩
      by_cases e : x = d
      · exact .inr e
      · exact .inl ⟨by omega, h2⟩
  · rw [setF_other e]
    by_cases hk2 : k < code.length
    · rw [FB_in hk2, FB_in hk2]
    · obtain ⟨j, rfl⟩ : ∃ j, k = code.length + j := ⟨k - code.length, by omega⟩
      funext x
      rw [Bool.eq_iff_iff, FB_iff, FB_iff]
      refine ⟨fun ⟨h1, h2⟩ => ⟨by omega, h2⟩, fun ⟨h1, h2⟩ => ⟨?_, h2⟩⟩
      by_cases e2 : x = d
      · subst e2
        rw [h] at h2
        have := Option.some.inj h2
        omega
      · omega
theorem FB_fresh {code : List Ins} {rg d : Nat} (h : d < rg) : setF (FB code rg d) (code.length + d) (fun _ => false) = FB code rg d := by
  funext k
  by_cases e : k = code.length + d
  · subst e
    rw [setF_self]
    funext x
    symm
    rw [Bool.eq_false_iff]
    intro hx
    obtain ⟨h1, h2⟩ := FB_iff.1 hx
    rw [rgD_lo (by omega)] at h2
    have := Option.some.inj h2
    omega
  · rw [setF_other e]
theorem el50 : ([5, 10] : List Nat).elem 50 = false := rfl
def FD (rg r : Nat) : Nat → Bool := fun x => decide (x < rg ∧ rg - 1 - x < r)
theorem FD_zero (rg : Nat) : FD rg 0 = fun _ => false := by unfold FD; funext x; simp
theorem FD_succ {rg r : Nat} (h : r < rg) : addF (FD rg r) (rg - 1 - r) = FD rg (r + 1) := by
  funext x
  rw [Bool.eq_iff_iff]
  unfold addF FD
  rw [Bool.or_eq_true, decide_eq_true_eq, decide_eq_true_eq, decide_eq_true_eq]
  omega
theorem FD_all {rg x : Nat} : FD rg rg x = true ↔ x < rg := by unfold FD; rw [decide_eq_true_eq]; omega
noncomputable def FE (code : List Ins) (rg : Nat) (In : Nat → Nat → Bool) : Nat → Nat → Bool := fun k => if k < code.length then In k else setF (FB code rg (rg + code.length)) (code.length + rg) (FD rg rg) k
theorem FD_all' (rg : Nat) : FD rg rg = fun x => decide (x < rg) := by
  funext x; rw [Bool.eq_iff_iff, FD_all, decide_eq_true_eq]
section
variable {code : List Ins} {rg : Nat} {In : Nat → Nat → Bool}
theorem FE_in {k : Nat} (h : k < code.length) : FE code rg In k = In k := by unfold FE; rw [if_pos h]
theorem FE_own {e x : Nat} (h : e < rg) : FE code rg In (code.length + e) x = true ↔ x < rg + code.length ∧ rgD code rg x = some (rg - 1 - e) := by
  unfold FE
  rw [if_neg (by omega), setF_other (by omega), FB_iff]
end
theorem XU_pop {X : Mem} {id j : Nat} {x y z : Option O} : upd (upd (killM id (upd X j x)) id y) j z = upd (upd (killM id X) id y) j z := by
  funext i
  simp only [upd_app, killM_app]
  split
  · rfl
  · split
    · rfl
    · rfl
theorem setF_setF {F : Nat → Nat → Bool} {k : Nat} {S S' : Nat → Bool} : setF (setF F k S) k S' = setF F k S' := by
  funext i x; unfold setF; split <;> rfl
def DL (S : Nat → Bool) (l : List Nat) : Nat → Bool := l.foldl delF S
theorem DL_snoc {S : Nat → Bool} {l : List Nat} {d : Nat} : DL S (l ++ [d]) = delF (DL S l) d := by unfold DL; rw [List.foldl_append]; rfl
theorem DL_iff {d : Nat} : ∀ {l : List Nat} {S : Nat → Bool}, DL S l d = true ↔ S d = true ∧ d ∉ l
  | [], S => by simp [DL]
  | x :: l, S => by
    have ih := DL_iff (d := d) (l := l) (S := delF S x)
    unfold DL at ih ⊢
    rw [List.foldl_cons, ih]
    unfold delF
    simp
    constructor
    · rintro ⟨⟨h1, h2⟩, h3⟩; exact ⟨h1, h2, h3⟩
    · rintro ⟨h1, h2, h3⟩; exact ⟨⟨h1, h2⟩, h3⟩
set_option maxHeartbeats 8000000 in
theorem usesP_ok (p : Prc) (hpl : p.code.length ≤ 1000000000000000) (hsum : (p.code.map fun x => x.args.length).sum ≤ 1048576) (m : Mem) : COk Tryd.prog 8 [.agg (cP p)] m (.tup (usesA p)) := by
  have hargs : ∀ x ∈ p.code, x.args.length ≤ 1000000000 := fun x hx => by have := args_le hx; omega
  have hmay := fun m => may_ok p hpl hargs m
  cases hok : okD p.code p.regs with
  | false =>
    have e : usesA p = [(false, [.sl []]), (false, [.int .i64 110])] := by unfold usesA; rw [if_neg (by simp [hok])]
    rw [e]
    rw [hok] at hmay
    obtain ⟨cls, name, params, regs, code⟩ := p
    have hcp : cP ⟨cls, name, params, regs, code⟩ = [.str cls, .str name, .int .i64 params, .int .i64 regs, .sl (code.map cIns)] := rfl
    refine (ok_pure tab_ok Tryd.func8 (by kernel_rfl) rfl rfl (by rfl) (by rfl) (by rfl) (fun R hkeep => ?_) m)
    (repeat (first | refine W.seq ?_ | refine W.block ?_ | refine W.skip ?_ | refine W.exit ?_))
    refine W.region tab_ok 0 (by decide) (exec_run (by simp only [exa, beq_self_eq_true, ByteArray.size, Nat.reduceAdd, Nat.reduceLeDiff, Nat.reduceEqDiff, Nat.reduceMul, Int.reduceToNat, reduceIte, Int.reduceLE, Int.reduceNeg, hcp, List.map_cons, List.map_nil]; rfl)) ?_
    (repeat (first | refine W.seq ?_ | refine W.block ?_ | refine W.skip ?_ | refine W.exit ?_))
    refine W.regionK tab_ok 0 (by decide) ?_
    refine runk_split 1 (by simp only [exa, beq_self_eq_true, ByteArray.size, Nat.reduceAdd, Nat.reduceLeDiff, Nat.reduceEqDiff, Nat.reduceMul, Int.reduceToNat, reduceIte, Int.reduceLE, Int.reduceNeg, hcp, List.map_cons, List.map_nil]; rfl) ?_
    refine runk_call rfl rfl rfl rfl rfl (by simp) (cvs_cons cv_refl cvs_nil) (hmay _) ?_
    refine runk_exec (by simp only [exa, beq_self_eq_true, ByteArray.size, Nat.reduceAdd, Nat.reduceLeDiff, Nat.reduceEqDiff, Nat.reduceMul, Int.reduceToNat, reduceIte, Int.reduceLE, Int.reduceNeg, Bool.not_false]; rfl) ?_
    refine W.cond rfl (fun _ => ?_) (fun h => absurd h (by simp))
    repeat (first | refine W.seq ?_ | refine W.block ?_ | refine W.skip ?_ | refine W.exit ?_ | refine W.region tab_ok 0 (by decide) (exec_run (by simp only [exa, beq_self_eq_true, ByteArray.size, Nat.reduceAdd, Nat.reduceLeDiff, Nat.reduceEqDiff, Nat.reduceMul, Int.reduceToNat, reduceIte, Int.reduceLE, Int.reduceNeg]; rfl)) ?_)
    refine W.ret ⟨.inr rfl, by rfl, ?_⟩
    simp only [Tryd.f8, resA, resOne, toT, fin, exa, beq_self_eq_true, ByteArray.size, Nat.reduceAdd, Nat.reduceLeDiff, Nat.reduceEqDiff, Nat.reduceMul, Int.reduceToNat, reduceIte, Int.reduceLE, Int.reduceNeg]
  | true =>
    have hl := okD_len hok
    obtain ⟨rg, hrg⟩ := Int.eq_ofNat_of_zero_le hl.2.2.1
    have e : usesA p = [(false, [.sl ((edD p.code rg).map cE)]), (false, [.int .i64 0])] := by unfold usesA; rw [if_pos hok, hrg]; rfl
    rw [e]
    rw [hok] at hmay
    have hok' : okD p.code rg = true := by rw [← hrg]; exact hok
    have hed := fun K F a c ha hc hK hXb hin hown hFb hFo hFi => edges_ok p rg hrg hok' hsum K F (XU (.box 24 [.c (.str p.cls), .c (.str p.name), .c (.int .i64 p.params), .c (.int .i64 rg), .c (.sl (p.code.map cIns))]) rg p.code.length []) a c ha hc hK hXb hin hown hFb hFo hFi
    have hwf : ∀ d : Nat, d < rg + p.code.length → (Lit.int .i64 ((d : Int) - rg)).wf = true := fun d hd => by rw [lit_wf]; simp [IntKind.min, IntKind.max, IntKind.bits, IntKind.signed]; omega
    have hof := fun (d : Nat) (hd : d < rg + p.code.length) m => of_ok18 p ((d : Int) - rg) (hwf d hd) m
    have hnx := fun i (hi : i ≤ p.code.length) m => irNext_ok p i hpl hi m
    obtain ⟨cls, name, params, regs, code⟩ := p
    simp only at hrg hok' hof hargs hl hed hnx ⊢
    subst hrg
    have hcp : cP ⟨cls, name, params, rg, code⟩ = [.str cls, .str name, .int .i64 params, .int .i64 rg, .sl (code.map cIns)] := rfl
    obtain ⟨N, hN⟩ : ∃ N, N = rg + code.length := ⟨_, rfl⟩
    have hN1 : N ≤ 1000000 := by omega
    have hwN : IntKind.i64.wrap ((rg : Int) + (code.length : Int)) = ((N : Nat) : Int) := by rw [hN, IntKind.wrap_i64]; omega
    have hm1 : code.length * 8 ≤ 140737488355328 := by omega
    have hm2 : ((code.length : Nat) : Int) ≤ 9223372036854775807 := by omega
    have hn0 : (0 : Int) ≤ ((code.length : Nat) : Int) := by omega
    have lo1 : ∀ K F X, setsM K N F X 1 = X 1 := fun K F X => setsM_lo (by decide)
    have lo5 : ∀ K F X, setsM K N F X 5 = X 5 := fun K F X => setsM_lo (by decide)
    have lo29 : ∀ K F X, setsM K N F X 29 = X 29 := fun K F X => setsM_lo (by decide)
    refine (ok_pure tab_ok Tryd.func8 (by kernel_rfl) rfl rfl (by rfl) (by rfl) (by rfl) (fun R hkeep => ?_) m)
    (repeat (first | refine W.seq ?_ | refine W.block ?_ | refine W.skip ?_ | refine W.exit ?_))
    refine W.region tab_ok 0 (by decide) (exec_run (by simp only [exa, beq_self_eq_true, ByteArray.size, Nat.reduceAdd, Nat.reduceLeDiff, Nat.reduceEqDiff, Nat.reduceMul, Int.reduceToNat, reduceIte, Int.reduceLE, Int.reduceNeg, hcp, List.map_cons, List.map_nil]; rfl)) ?_
    (repeat (first | refine W.seq ?_ | refine W.block ?_ | refine W.skip ?_ | refine W.exit ?_))
    refine W.regionK tab_ok 0 (by decide) ?_
    refine runk_split 1 (by simp only [exa, beq_self_eq_true, ByteArray.size, Nat.reduceAdd, Nat.reduceLeDiff, Nat.reduceEqDiff, Nat.reduceMul, Int.reduceToNat, reduceIte, Int.reduceLE, Int.reduceNeg, hcp, List.map_cons, List.map_nil]; rfl) ?_
    refine runk_call rfl rfl rfl rfl rfl (by simp) (cvs_cons cv_refl cvs_nil) (hmay _) ?_
    refine runk_exec (by simp only [exa, beq_self_eq_true, ByteArray.size, Nat.reduceAdd, Nat.reduceLeDiff, Nat.reduceEqDiff, Nat.reduceMul, Int.reduceToNat, reduceIte, Int.reduceLE, Int.reduceNeg, Bool.not_true]; rfl) ?_
    refine W.cond rfl (fun h => absurd h (by simp)) (fun _ => ?_)
    repeat (first | refine W.seq ?_ | refine W.block ?_ | refine W.skip ?_ | refine W.exit ?_ | refine W.region tab_ok 0 (by decide) (exec_run (by simp only [exa, beq_self_eq_true, ByteArray.size, Nat.reduceAdd, Nat.reduceLeDiff, Nat.reduceEqDiff, Nat.reduceMul, Int.reduceToNat, reduceIte, Int.reduceLE, Int.reduceNeg, List.length_map, Int.toNat_natCast, hm1, hm2, hn0, and_self, Bool.false_eq_true, inP_zero, inP_len]; rfl)) ?_)
    have wfI : ∀ k, WFm (setsM k N noF (upd (upd (upd Mem.nil 1 (some (.box 24 [.c (.str cls), .c (.str name), .c (.int .i64 params), .c (.int .i64 rg), .c (.sl (code.map cIns))]))) 5 (some (.box 46 [.own 29]))) 29 (some (.rows 47 (inP code.length k))))) := fun k => setsM_wf fun id o ho j hj => by
      unfold upd at ho
      split at ho
      · cases ho
        simp only [O.ids, inP, List.mem_flatMap, List.mem_map, List.mem_range] at hj
        obtain ⟨a, ⟨e, he, rfl⟩, hj⟩ := hj
        split at hj
        · rename_i hek
          simp [A1.ids] at hj; subst hj; exact setsM_isSome_s hek
        · simp [A1.ids] at hj
      · split at ho
        · cases ho; simp [O.ids, A.ids] at hj; subst hj; rw [lo29]; rfl
        · split at ho
          · cases ho; simp [O.ids, A.ids] at hj
          · cases ho
    have farI : ∀ k j, 100 ≤ j → (upd (upd (upd Mem.nil 1 (some (.box 24 [.c (.str cls), .c (.str name), .c (.int .i64 params), .c (.int .i64 rg), .c (.sl (code.map cIns))]))) 5 (some (.box 46 [.own 29]))) 29 (some (.rows 47 (inP code.length k)))) j = none := fun k j hj => by
      rw [upd_ne _ _ (by omega), upd_ne _ _ (by omega), upd_ne _ _ (by omega)]; rfl
    refine W.loop (ι := Nat) (fun i => ⟨upd (upd (upd (upd (upd (fun _ => .top) 1 (.ptr 1 0)) 4 (.c (.int .i64 code.length))) 5 (.ptr 5 0)) 31 (.c (.int .i64 code.length))) 32 (.c (.int .i64 i)), setsM i N noF (upd (upd (upd Mem.nil 1 (some (.box 24 [.c (.str cls), .c (.str name), .c (.int .i64 params), .c (.int .i64 rg), .c (.sl (code.map cIns))]))) 5 (some (.box 46 [.own 29]))) 29 (some (.rows 47 (inP code.length i))))⟩) (fun i => i ≤ code.length) (fun i => code.length - i) 0 ?startA (Nat.zero_le _) ?roundA
    case startA =>
      refine le_mk ?sle ?mle ?swf ?mwf (kept_not hkeep) (by rfl)
      case swf => repeat (first | exact swf_top _ | refine swf_upd ?_ (by simp [A.ids, upd_app, lo1, lo5]))
      case mwf => exact wfI 0
      case mle =>
        refine mle_refl' ?_
        dsimp only
        rw [setsM_zero, upd_upd, upd_comm _ _ _ (by decide)]
      case sle => repeat (first | exact sle_top _ | exact sle_refl _ | refine sle_upd ?_ (by first | rfl | (simp only [upd_app, killS_app, A.kill, entry_zero, entry_succ, Nat.reduceEqDiff, reduceIte]; done)))
    case roundA =>
      intro i hi
      repeat (first | refine W.seq ?_ | refine W.block ?_ | refine W.skip ?_ | refine W.exit ?_ | refine W.region tab_ok 60 (by decide) (exec_run (by simp only [exa, beq_self_eq_true, ByteArray.size, Nat.reduceAdd, Nat.reduceLeDiff, Nat.reduceEqDiff, Nat.reduceMul, Int.reduceToNat, reduceIte, Int.reduceLE, Int.reduceNeg]; rfl)) ?_)
      refine W.cond rfl ?_ ?_
      · intro hlt
        simp only [decide_eq_true_eq, Int.ofNat_lt] at hlt
        have hi0 : (0 : Int) ≤ (i : Int) := by omega
        have hnew := newM_ok (K := i) (F := noF) (X := upd (upd (upd Mem.nil 1 (some (.box 24 [.c (.str cls), .c (.str name), .c (.int .i64 params), .c (.int .i64 rg), .c (.sl (code.map cIns))]))) 5 (some (.box 46 [.own 29]))) 29 (some (.rows 47 (inP code.length i)))) hN1 (farI i)
        rw [setF_noF] at hnew
        (repeat (first | refine W.seq ?_ | refine W.block ?_ | refine W.skip ?_ | refine W.exit ?_))
        refine W.region tab_ok 60 (by decide) (exec_run (by simp only [exa, beq_self_eq_true, ByteArray.size, Nat.reduceAdd, Nat.reduceLeDiff, Nat.reduceEqDiff, Nat.reduceMul, Int.reduceToNat, reduceIte, Int.reduceLE, Int.reduceNeg]; rfl)) ?_
        (repeat (first | refine W.seq ?_ | refine W.block ?_ | refine W.skip ?_ | refine W.exit ?_))
        refine W.regionX tab_ok follows_mixed ⟨upd (upd (upd (upd (upd (fun _ => .top) 1 (.ptr 1 0)) 4 (.c (.int .i64 code.length))) 5 (.ptr 5 0)) 31 (.c (.int .i64 code.length))) 32 (.c (.int .i64 i)), setsM (i + 1) N noF (upd (upd (upd Mem.nil 1 (some (.box 24 [.c (.str cls), .c (.str name), .c (.int .i64 params), .c (.int .i64 rg), .c (.sl (code.map cIns))]))) 5 (some (.box 46 [.own 29]))) 29 (some (.rows 47 (inP code.length (i + 1)))))⟩ ?_ ?_
        · skip
          refine rx_move (base := 60) tab_ok (by decide) (by decide +kernel) 1 rfl rfl rfl (by decide +kernel) (by decide +kernel) ⟨_, by simp only [exec1, exa, beq_self_eq_true, ByteArray.size, Nat.reduceAdd, Nat.reduceLeDiff, Nat.reduceEqDiff, Nat.reduceMul, Int.reduceToNat, reduceIte, Int.reduceLE, Int.reduceNeg]; rfl, ?_⟩
          refine rx_field (base := 60) tab_ok (by decide) (by decide +kernel) 2 rfl rfl (by simp only [exa, beq_self_eq_true, ByteArray.size, Nat.reduceAdd, Nat.reduceLeDiff, Nat.reduceEqDiff, Nat.reduceMul, Int.reduceToNat, reduceIte, Int.reduceLE, Int.reduceNeg, lo1]; rfl) rfl rfl (by decide +kernel) (by decide +kernel) ⟨_, by simp only [exec1, exa, beq_self_eq_true, ByteArray.size, Nat.reduceAdd, Nat.reduceLeDiff, Nat.reduceEqDiff, Nat.reduceMul, Int.reduceToNat, reduceIte, Int.reduceLE, Int.reduceNeg, lo1]; rfl, ?_⟩
          refine rx_move (base := 60) tab_ok (by decide) (by decide +kernel) 4 rfl rfl rfl (by decide +kernel) (by decide +kernel) ⟨_, by simp only [exec1, exa, beq_self_eq_true, ByteArray.size, Nat.reduceAdd, Nat.reduceLeDiff, Nat.reduceEqDiff, Nat.reduceMul, Int.reduceToNat, reduceIte, Int.reduceLE, Int.reduceNeg]; rfl, ?_⟩
          refine rx_runs (base := 60) tab_ok (by decide) ?_
          refine first_exec 3 (by decide +kernel) ⟨_, by simp only [exec1, exa, beq_self_eq_true, ByteArray.size, Nat.reduceAdd, Nat.reduceLeDiff, Nat.reduceEqDiff, Nat.reduceMul, Int.reduceToNat, reduceIte, Int.reduceLE, Int.reduceNeg, lo1]; rfl, ?_⟩
          refine first_exec 5 (by decide +kernel) ⟨_, by simp only [exec1, exa, beq_self_eq_true, ByteArray.size, Nat.reduceAdd, Nat.reduceLeDiff, Nat.reduceEqDiff, Nat.reduceMul, Int.reduceToNat, reduceIte, Int.reduceLE, Int.reduceNeg, hwN]; rfl, ?_⟩
          refine runs_node [0, 6] (by decide +kernel) (by decide) ?_
          refine step_exec ⟨_, by simp only [exec1, exa, beq_self_eq_true, ByteArray.size, Nat.reduceAdd, Nat.reduceLeDiff, Nat.reduceEqDiff, Nat.reduceMul, Int.reduceToNat, reduceIte, Int.reduceLE, Int.reduceNeg, lo5]; rfl, ?_⟩ ?_
          · refine runs_node [6] (by decide +kernel) (by decide) ?_
            refine step_call rfl rfl rfl rfl rfl (by first | rfl | (simp only [exa, beq_self_eq_true, ByteArray.size, Nat.reduceAdd, Nat.reduceLeDiff, Nat.reduceEqDiff, Nat.reduceMul, Int.reduceToNat, reduceIte, Int.reduceLE, Int.reduceNeg]; rfl)) (by first | rfl | (simp only [exa, beq_self_eq_true, ByteArray.size, Nat.reduceAdd, Nat.reduceLeDiff, Nat.reduceEqDiff, Nat.reduceMul, Int.reduceToNat, reduceIte, Int.reduceLE, Int.reduceNeg]; rfl)) rfl (cvs_cons cv_refl cvs_nil) hnew ?_ ?_
            · skip
              refine runs_node [7] (by decide +kernel) (by decide) ?_
              refine step_exec ⟨_, by simp only [exec1, exa, beq_self_eq_true, ByteArray.size, Nat.reduceAdd, Nat.reduceLeDiff, Nat.reduceEqDiff, Nat.reduceMul, Int.reduceToNat, reduceIte, Int.reduceLE, Int.reduceNeg, lo29, hi0, hlt, inP_len, Int.toNat_natCast, and_self]; rfl, ?_⟩ ?_
              · refine runs_node [8] (by decide +kernel) (by decide) ?_
                refine step_exec ⟨_, by simp only [exec1, exa, beq_self_eq_true, ByteArray.size, Nat.reduceAdd, Nat.reduceLeDiff, Nat.reduceEqDiff, Nat.reduceMul, Int.reduceToNat, reduceIte, Int.reduceLE, Int.reduceNeg, stO, lo29, inP_len, hlt, A.down]; rfl, ?_⟩ ?_
                · refine runsw_end (by decide +kernel) ?_
                  refine le_mk ?sle ?mle ?swf ?mwf (kept_not hkeep) (by rfl)
                  case swf => repeat (first | exact swf_top _ | refine swf_upd ?_ (by simp [A.ids, upd_app, lo1, lo5]))
                  case mwf => exact wfI (i + 1)
                  case mle =>
                    refine mle_refl' ?_
                    dsimp only
                    rw [setsM_upd (by decide)]
                    congr 1
                    rw [← inP_set hlt]
                    first | rfl | simp only [upd_upd]
                  case sle => repeat (first | exact sle_top _ | exact sle_refl _ | refine sle_upd ?_ (by first | rfl | (simp only [upd_app, killS_app, A.kill, entry_zero, entry_succ, Nat.reduceEqDiff, reduceIte]; done)))
                · trivial
              · trivial
            · trivial
          · skip
            refine step_call rfl rfl rfl rfl rfl (by first | rfl | (simp only [exa, beq_self_eq_true, ByteArray.size, Nat.reduceAdd, Nat.reduceLeDiff, Nat.reduceEqDiff, Nat.reduceMul, Int.reduceToNat, reduceIte, Int.reduceLE, Int.reduceNeg]; rfl)) (by first | rfl | (simp only [exa, beq_self_eq_true, ByteArray.size, Nat.reduceAdd, Nat.reduceLeDiff, Nat.reduceEqDiff, Nat.reduceMul, Int.reduceToNat, reduceIte, Int.reduceLE, Int.reduceNeg]; rfl)) rfl (cvs_cons cv_refl cvs_nil) hnew ?_ ?_
            · refine runs_node [0] (by decide +kernel) (by decide) ?_
              refine step_exec ⟨_, by simp only [exec1, exa, beq_self_eq_true, ByteArray.size, Nat.reduceAdd, Nat.reduceLeDiff, Nat.reduceEqDiff, Nat.reduceMul, Int.reduceToNat, reduceIte, Int.reduceLE, Int.reduceNeg, lo5]; rfl, ?_⟩ ?_
              · skip
                refine runs_node [7] (by decide +kernel) (by decide) ?_
                refine step_exec ⟨_, by simp only [exec1, exa, beq_self_eq_true, ByteArray.size, Nat.reduceAdd, Nat.reduceLeDiff, Nat.reduceEqDiff, Nat.reduceMul, Int.reduceToNat, reduceIte, Int.reduceLE, Int.reduceNeg, lo29, hi0, hlt, inP_len, Int.toNat_natCast, and_self]; rfl, ?_⟩ ?_
                · refine runs_node [8] (by decide +kernel) (by decide) ?_
                  refine step_exec ⟨_, by simp only [exec1, exa, beq_self_eq_true, ByteArray.size, Nat.reduceAdd, Nat.reduceLeDiff, Nat.reduceEqDiff, Nat.reduceMul, Int.reduceToNat, reduceIte, Int.reduceLE, Int.reduceNeg, stO, lo29, inP_len, hlt, A.down]; rfl, ?_⟩ ?_
                  · refine runsw_end (by decide +kernel) ?_
                    refine le_mk ?sle ?mle ?swf ?mwf (kept_not hkeep) (by rfl)
                    case swf => repeat (first | exact swf_top _ | refine swf_upd ?_ (by simp [A.ids, upd_app, lo1, lo5]))
                    case mwf => exact wfI (i + 1)
                    case mle =>
                      refine mle_refl' ?_
                      dsimp only
                      rw [setsM_upd (by decide)]
                      congr 1
                      rw [← inP_set hlt]
                      first | rfl | simp only [upd_upd]
                    case sle => repeat (first | exact sle_top _ | exact sle_refl _ | refine sle_upd ?_ (by first | rfl | (simp only [upd_app, killS_app, A.kill, entry_zero, entry_succ, Nat.reduceEqDiff, reduceIte]; done)))
                  · trivial
                · trivial
              · trivial
            · trivial
        · intro st' hle
          refine W.weaken hle ?_
          repeat (first | refine W.seq ?_ | refine W.block ?_ | refine W.skip ?_ | refine W.exit ?_ | refine W.region tab_ok 60 (by decide) (exec_run (by simp only [exa, beq_self_eq_true, ByteArray.size, Nat.reduceAdd, Nat.reduceLeDiff, Nat.reduceEqDiff, Nat.reduceMul, Int.reduceToNat, reduceIte, Int.reduceLE, Int.reduceNeg]; rfl)) ?_)
          refine ⟨i + 1, hlt, by omega, ?_⟩
          refine le_mk ?sle ?mle ?swf ?mwf (kept_not hkeep) (by rfl)
          case swf => repeat (first | exact swf_top _ | refine swf_upd ?_ (by simp [A.ids, upd_app, lo1, lo5]))
          case mwf => exact wfI (i + 1)
          case mle => exact mle_refl' rfl
          case sle => repeat (first | exact sle_top _ | exact sle_refl _ | refine sle_upd ?_ (by first | rfl | (simp only [upd_app, killS_app, A.kill, entry_zero, entry_succ, Nat.reduceEqDiff, reduceIte, wrap_succ (show i + 1 < 9223372036854775808 by omega)]; done)))
      · intro hge
        simp only [decide_eq_false_iff_not, Int.ofNat_lt] at hge
        obtain rfl : i = code.length := by omega
        have lo44 : ∀ K F X, setsM K N F X 44 = X 44 := fun K F X => setsM_lo (by decide)
        rw [inP_all]
        repeat (first | refine W.seq ?_ | refine W.block ?_ | refine W.skip ?_ | refine W.exit ?_ | refine W.region tab_ok 0 (by decide) (exec_run (by simp only [exa, beq_self_eq_true, ByteArray.size, Nat.reduceAdd, Nat.reduceLeDiff, Nat.reduceEqDiff, Nat.reduceMul, Int.reduceToNat, reduceIte, Int.reduceLE, Int.reduceNeg, lo1, lo44, hwN]; rfl)) ?_)
        have wfO : ∀ K F k, code.length + k ≤ K → WFm (setsM K N F (upd (upd (upd (upd Mem.nil 1 (some (.box 24 [.c (.str cls), .c (.str name), .c (.int .i64 params), .c (.int .i64 rg), .c (.sl (code.map cIns))]))) 5 (some (.box 46 [.own 29]))) 29 (some (.rows 47 (inL code.length)))) 44 (some (.map (ownL rg code.length k))))) := fun K F k hK => setsM_wf fun id o ho j hj => by
          unfold upd at ho
          split at ho
          · cases ho
            simp only [O.ids, ownL, List.mem_flatMap, List.mem_map, List.mem_range] at hj
            obtain ⟨a, ⟨e, he, rfl⟩, hj⟩ := hj
            simp [A1.ids] at hj; subst hj; exact setsM_isSome_s (by omega)
          · split at ho
            · cases ho
              simp only [O.ids, inL, List.mem_flatMap, List.mem_map, List.mem_range] at hj
              obtain ⟨a, ⟨e, he, rfl⟩, hj⟩ := hj
              simp [A1.ids] at hj; subst hj; exact setsM_isSome_s (by omega)
            · split at ho
              · cases ho; simp [O.ids, A.ids] at hj; subst hj; rw [lo29]; rfl
              · split at ho
                · cases ho; simp [O.ids, A.ids] at hj
                · cases ho
        have farO : ∀ k j, 100 ≤ j → (upd (upd (upd (upd Mem.nil 1 (some (.box 24 [.c (.str cls), .c (.str name), .c (.int .i64 params), .c (.int .i64 rg), .c (.sl (code.map cIns))]))) 5 (some (.box 46 [.own 29]))) 29 (some (.rows 47 (inL code.length)))) 44 (some (.map (ownL rg code.length k)))) j = none := fun k j hj => by
          rw [upd_ne _ _ (by omega), upd_ne _ _ (by omega), upd_ne _ _ (by omega), upd_ne _ _ (by omega)]; rfl
        refine W.loop (ι := Nat) (fun d => ⟨upd (upd (upd (upd (upd (upd (fun _ => .top) 1 (.ptr 1 0)) 4 (.c (.int .i64 code.length))) 5 (.ptr 5 0)) 7 (.map 44)) 48 (.c (.int .i64 N))) 49 (.c (.int .i64 d)), setsM (code.length + min d rg) N (FB code rg d) (upd (upd (upd (upd Mem.nil 1 (some (.box 24 [.c (.str cls), .c (.str name), .c (.int .i64 params), .c (.int .i64 rg), .c (.sl (code.map cIns))]))) 5 (some (.box 46 [.own 29]))) 29 (some (.rows 47 (inL code.length)))) 44 (some (.map (ownL rg code.length (min d rg)))))⟩) (fun d => d ≤ N) (fun d => N - d) 0 ?startB (Nat.zero_le _) ?roundB
        case startB =>
          refine le_mk ?sle ?mle ?swf ?mwf (kept_not hkeep) (by rfl)
          case swf => repeat (first | exact swf_top _ | refine swf_upd ?_ (by simp [A.ids, upd_app, lo1, lo5, lo44]))
          case mwf => exact wfO _ _ _ (Nat.le_refl _)
          case mle =>
            refine mle_refl' ?_
            dsimp only
            rw [setsM_upd (by decide), Nat.zero_min, Nat.add_zero]
            refine (setsM_congr fun k hk => ?_).trans rfl
            rw [FB_zero]; rfl
          case sle => repeat (first | exact sle_top _ | exact sle_refl _ | refine sle_upd ?_ (by first | rfl | (simp only [upd_app, killS_app, A.kill, entry_zero, entry_succ, Nat.reduceEqDiff, reduceIte]; done)))
        case roundB =>
          intro d hd
          repeat (first | refine W.seq ?_ | refine W.block ?_ | refine W.skip ?_ | refine W.exit ?_ | refine W.region tab_ok 0 (by decide) (exec_run (by simp only [exa, beq_self_eq_true, ByteArray.size, Nat.reduceAdd, Nat.reduceLeDiff, Nat.reduceEqDiff, Nat.reduceMul, Int.reduceToNat, reduceIte, Int.reduceLE, Int.reduceNeg]; rfl)) ?_)
          refine W.cond rfl ?_ ?_
          · intro hlt
            simp only [decide_eq_true_eq, Int.ofNat_lt] at hlt
            have hofd := fun m => hof d (by omega) m
            have hws : IntKind.i64.wrap ((d : Int) - (rg : Int)) = (d : Int) - rg := by rw [IntKind.wrap_i64]; omega
            (repeat (first | refine W.seq ?_ | refine W.block ?_ | refine W.skip ?_ | refine W.exit ?_))
            refine W.region tab_ok 0 (by decide) (exec_run (by simp only [exa, beq_self_eq_true, ByteArray.size, Nat.reduceAdd, Nat.reduceLeDiff, Nat.reduceEqDiff, Nat.reduceMul, Int.reduceToNat, reduceIte, Int.reduceLE, Int.reduceNeg]; rfl)) ?_
            (repeat (first | refine W.seq ?_ | refine W.block ?_ | refine W.skip ?_ | refine W.exit ?_))
            refine W.regionK tab_ok 0 (by decide) ?_
            cases hr : rgD code rg d with
            | none =>
              rw [ofI_none (by omega) hr] at hofd
              have hdr : rg ≤ d := Nat.le_of_not_lt fun h => by rw [rgD_lo h] at hr; cases hr
              refine runk_split 5 (by simp only [exa, beq_self_eq_true, ByteArray.size, Nat.reduceAdd, Nat.reduceLeDiff, Nat.reduceEqDiff, Nat.reduceMul, Int.reduceToNat, reduceIte, Int.reduceLE, Int.reduceNeg, hcp, List.map_cons, List.map_nil, lo1, hws]; rfl) ?_
              refine runk_call rfl rfl rfl rfl rfl (by simp) (cvs_cons cv_refl (cvs_cons cv_refl cvs_nil)) (hofd _) ?_
              refine runk_exec (by simp only [exa, beq_self_eq_true, ByteArray.size, Nat.reduceAdd, Nat.reduceLeDiff, Nat.reduceEqDiff, Nat.reduceMul, Int.reduceToNat, reduceIte, Int.reduceLE, Int.reduceNeg]; rfl) ?_
              repeat (first | refine W.seq ?_ | refine W.block ?_ | refine W.skip ?_ | refine W.exit ?_ | refine W.region tab_ok 0 (by decide) (exec_run (by simp only [exa, beq_self_eq_true, ByteArray.size, Nat.reduceAdd, Nat.reduceLeDiff, Nat.reduceEqDiff, Nat.reduceMul, Int.reduceToNat, reduceIte, Int.reduceLE, Int.reduceNeg, Int.reduceNeg, Int.reduceLE, decide_false]; rfl)) ?_)
              refine W.cond rfl (fun h => absurd h (by simp)) (fun _ => ?_)
              repeat (first | refine W.seq ?_ | refine W.block ?_ | refine W.skip ?_ | refine W.exit ?_ | refine W.region tab_ok 0 (by decide) (exec_run (by simp only [exa, beq_self_eq_true, ByteArray.size, Nat.reduceAdd, Nat.reduceLeDiff, Nat.reduceEqDiff, Nat.reduceMul, Int.reduceToNat, reduceIte, Int.reduceLE, Int.reduceNeg]; rfl)) ?_)
              refine ⟨d + 1, hlt, by omega, ?_⟩
              refine le_mk ?sle ?mle ?swf ?mwf (kept_not hkeep) (by rfl)
              case swf => repeat (first | exact swf_top _ | refine swf_upd ?_ (by simp [A.ids, upd_app, lo1, lo5, lo44]))
              case mwf => exact wfO _ _ _ (Nat.le_refl _)
              case mle =>
                refine mle_refl' ?_
                dsimp only
                rw [Nat.min_eq_right hdr, Nat.min_eq_right (show rg ≤ d + 1 by omega)]
                exact setsM_congr fun k _ => (FB_none hr k).symm
              case sle => repeat (first | exact sle_top _ | exact sle_refl _ | refine sle_upd ?_ (by first | rfl | (simp only [upd_app, killS_app, A.kill, entry_zero, entry_succ, Nat.reduceEqDiff, reduceIte, wrap_succ (show d + 1 < 9223372036854775808 by omega)]; done)))
            | some r =>
              rw [ofI_place hok' hr] at hofd
              have hrr := (rgD_lt hok' hr).1
              have hr0 := eq_true (show (0 : Int) ≤ (r : Int) by omega)
              refine runk_split 5 (by simp only [exa, beq_self_eq_true, ByteArray.size, Nat.reduceAdd, Nat.reduceLeDiff, Nat.reduceEqDiff, Nat.reduceMul, Int.reduceToNat, reduceIte, Int.reduceLE, Int.reduceNeg, hcp, List.map_cons, List.map_nil, lo1, hws]; rfl) ?_
              refine runk_call rfl rfl rfl rfl rfl (by simp) (cvs_cons cv_refl (cvs_cons cv_refl cvs_nil)) (hofd _) ?_
              refine runk_exec (by simp only [exa, beq_self_eq_true, ByteArray.size, Nat.reduceAdd, Nat.reduceLeDiff, Nat.reduceEqDiff, Nat.reduceMul, Int.reduceToNat, reduceIte, Int.reduceLE, Int.reduceNeg]; rfl) ?_
              repeat (first | refine W.seq ?_ | refine W.block ?_ | refine W.skip ?_ | refine W.exit ?_ | refine W.region tab_ok 0 (by decide) (exec_run (by simp only [exa, beq_self_eq_true, ByteArray.size, Nat.reduceAdd, Nat.reduceLeDiff, Nat.reduceEqDiff, Nat.reduceMul, Int.reduceToNat, reduceIte, Int.reduceLE, Int.reduceNeg, hr0, decide_true]; rfl)) ?_)
              refine W.cond rfl (fun _ => ?_) (fun h => absurd h (by simp))
              by_cases hdr : d < rg
              · have hre : r = rg - 1 - d := by rw [rgD_lo hdr] at hr; exact (Option.some.inj hr).symm
                have hab := own_absent (rg := rg) (n := code.length) (m := d) (r := r) (by omega) hrr (by omega)
                obtain ⟨q, hth⟩ := own_there (rg := rg) (n := code.length) (m := d + 1) (r := r) (by omega) hrr (by omega)
                rw [show rg - 1 - r = d by omega] at hth
                have hput := ownL_succ (rg := rg) (n := code.length) (d := d) (r := r) (by omega)
                have hnewB := newM_ok (K := code.length + d) (F := FB code rg d) (X := upd (upd (upd (upd Mem.nil 1 (some (.box 24 [.c (.str cls), .c (.str name), .c (.int .i64 params), .c (.int .i64 rg), .c (.sl (code.map cIns))]))) 5 (some (.box 46 [.own 29]))) 29 (some (.rows 47 (inL code.length)))) 44 (some (.map (ownL rg code.length d)))) hN1 (farO d)
                rw [FB_fresh hdr] at hnewB
                have hadd := addM_ok (K := code.length + d + 1) (F := FB code rg d) (X := upd (upd (upd (upd Mem.nil 1 (some (.box 24 [.c (.str cls), .c (.str name), .c (.int .i64 params), .c (.int .i64 rg), .c (.sl (code.map cIns))]))) 5 (some (.box 46 [.own 29]))) 29 (some (.rows 47 (inL code.length)))) 44 (some (.map (ownL rg code.length (d + 1))))) hN1 (farO (d + 1)) (k := code.length + d) (by omega) d
                rw [if_pos hlt] at hadd
                rw [Nat.min_eq_left (show d ≤ rg by omega)]
                repeat (first | refine W.seq ?_ | refine W.block ?_ | refine W.skip ?_ | refine W.exit ?_ | refine W.region tab_ok 0 (by decide) (exec_run (by simp only [exa, beq_self_eq_true, ByteArray.size, Nat.reduceAdd, Nat.reduceLeDiff, Nat.reduceEqDiff, Nat.reduceMul, Int.reduceToNat, reduceIte, Int.reduceLE, Int.reduceNeg, lo44, hab, Bool.false_eq_true]; rfl)) ?_)
                refine W.cond rfl (fun _ => ?_) (fun h => absurd h (by simp))
                (repeat (first | refine W.seq ?_ | refine W.block ?_ | refine W.skip ?_ | refine W.exit ?_))
                refine W.regionK tab_ok 0 (by decide) ?_
                refine runk_split 6 (by simp only [exa, beq_self_eq_true, ByteArray.size, Nat.reduceAdd, Nat.reduceLeDiff, Nat.reduceEqDiff, Nat.reduceMul, Int.reduceToNat, reduceIte, Int.reduceLE, Int.reduceNeg, lo1, hwN]; rfl) ?_
                refine runk_callE (D := []) rfl rfl rfl rfl rfl (fun j hj => by simp at hj) (by simp) (cvs_cons cv_refl cvs_nil) hnewB ?_
                simp only [killL, putS, upd_upd]
                refine runk_split 0 (by simp only [exa, beq_self_eq_true, ByteArray.size, Nat.reduceAdd, Nat.reduceLeDiff, Nat.reduceEqDiff, Nat.reduceMul, Int.reduceToNat, reduceIte, Int.reduceLE, Int.reduceNeg, lo44]; rfl) ?_
                refine runk_put tab_ok (ents := (ownL rg code.length d)) rfl (.inl rfl) rfl rfl (by first | rfl | (simp only [exa, beq_self_eq_true, ByteArray.size, Nat.reduceAdd, Nat.reduceLeDiff, Nat.reduceEqDiff, Nat.reduceMul, Int.reduceToNat, reduceIte, Int.reduceLE, Int.reduceNeg, lo44]; done)) rfl (by first | rfl | (simp only [exa, beq_self_eq_true, ByteArray.size, Nat.reduceAdd, Nat.reduceLeDiff, Nat.reduceEqDiff, Nat.reduceMul, Int.reduceToNat, reduceIte, Int.reduceLE, Int.reduceNeg, lo44]; rfl)) (by rfl) (by first | rfl | (simp only [exa, beq_self_eq_true, ByteArray.size, Nat.reduceAdd, Nat.reduceLeDiff, Nat.reduceEqDiff, Nat.reduceMul, Int.reduceToNat, reduceIte, Int.reduceLE, Int.reduceNeg, lo44]; rfl)) hab ?_
                rw [hput, setsM_upd (by decide), upd_upd]
                refine runk_exec (by simp only [exa, beq_self_eq_true, ByteArray.size, Nat.reduceAdd, Nat.reduceLeDiff, Nat.reduceEqDiff, Nat.reduceMul, Int.reduceToNat, reduceIte, Int.reduceLE, Int.reduceNeg]; rfl) ?_
                (repeat (first | refine W.seq ?_ | refine W.block ?_ | refine W.skip ?_ | refine W.exit ?_))
                refine W.regionK tab_ok 0 (by decide) ?_
                refine runk_split 4 (by simp only [exa, beq_self_eq_true, ByteArray.size, Nat.reduceAdd, Nat.reduceLeDiff, Nat.reduceEqDiff, Nat.reduceMul, Int.reduceToNat, reduceIte, Int.reduceLE, Int.reduceNeg, lo44, hth, Bool.false_eq_true]; rfl) ?_
                refine runk_callE (D := []) rfl rfl rfl rfl rfl (fun j hj => by simp at hj) (by simp) (cvs_cons cv_refl (cvs_cons cv_refl cvs_nil)) hadd ?_
                simp only [killL, putS, upd_upd]
                refine runk_exec (by simp only [exa, beq_self_eq_true, ByteArray.size, Nat.reduceAdd, Nat.reduceLeDiff, Nat.reduceEqDiff, Nat.reduceMul, Int.reduceToNat, reduceIte, Int.reduceLE, Int.reduceNeg]; rfl) ?_
                repeat (first | refine W.seq ?_ | refine W.block ?_ | refine W.skip ?_ | refine W.exit ?_ | refine W.region tab_ok 0 (by decide) (exec_run (by simp only [exa, beq_self_eq_true, ByteArray.size, Nat.reduceAdd, Nat.reduceLeDiff, Nat.reduceEqDiff, Nat.reduceMul, Int.reduceToNat, reduceIte, Int.reduceLE, Int.reduceNeg]; rfl)) ?_)
                refine ⟨d + 1, hlt, by omega, ?_⟩
                refine le_mk ?sle ?mle ?swf ?mwf (kept_not hkeep) (by rfl)
                case swf => repeat (first | exact swf_top _ | refine swf_upd ?_ (by simp [A.ids, upd_app, lo1, lo5, lo44]))
                case mwf => exact wfO _ _ _ (Nat.le_refl _)
                case mle =>
                  refine mle_refl' ?_
                  dsimp only
                  rw [Nat.min_eq_left (show d + 1 ≤ rg by omega)]
                  refine setsM_congr fun k hk => ?_
                  have := FB_some hrr hr (k := k) (by omega)
                  rw [show rg - 1 - r = d by omega] at this
                  exact this
                case sle => repeat (first | exact sle_top _ | exact sle_refl _ | refine sle_upd ?_ (by first | rfl | (simp only [upd_app, killS_app, A.kill, entry_zero, entry_succ, Nat.reduceEqDiff, reduceIte, wrap_succ (show d + 1 < 9223372036854775808 by omega)]; done)))
              · obtain ⟨q, hth⟩ := own_there (rg := rg) (n := code.length) (m := rg) (r := r) (Nat.le_refl _) hrr (by omega)
                have hadd := addM_ok (K := code.length + rg) (F := FB code rg d) (X := upd (upd (upd (upd Mem.nil 1 (some (.box 24 [.c (.str cls), .c (.str name), .c (.int .i64 params), .c (.int .i64 rg), .c (.sl (code.map cIns))]))) 5 (some (.box 46 [.own 29]))) 29 (some (.rows 47 (inL code.length)))) 44 (some (.map (ownL rg code.length rg)))) hN1 (farO rg) (k := code.length + (rg - 1 - r)) (by omega) d
                rw [if_pos hlt] at hadd
                rw [Nat.min_eq_right (show rg ≤ d by omega)]
                repeat (first | refine W.seq ?_ | refine W.block ?_ | refine W.skip ?_ | refine W.exit ?_ | refine W.region tab_ok 0 (by decide) (exec_run (by simp only [exa, beq_self_eq_true, ByteArray.size, Nat.reduceAdd, Nat.reduceLeDiff, Nat.reduceEqDiff, Nat.reduceMul, Int.reduceToNat, reduceIte, Int.reduceLE, Int.reduceNeg, lo44, hth, Bool.false_eq_true]; rfl)) ?_)
                refine W.cond rfl (fun h => absurd h (by simp)) (fun _ => ?_)
                (repeat (first | refine W.seq ?_ | refine W.block ?_ | refine W.skip ?_ | refine W.exit ?_))
                refine W.regionK tab_ok 0 (by decide) ?_
                refine runk_split 4 (by simp only [exa, beq_self_eq_true, ByteArray.size, Nat.reduceAdd, Nat.reduceLeDiff, Nat.reduceEqDiff, Nat.reduceMul, Int.reduceToNat, reduceIte, Int.reduceLE, Int.reduceNeg, lo44, hth, Bool.false_eq_true]; rfl) ?_
                refine runk_callE (D := []) rfl rfl rfl rfl rfl (fun j hj => by simp at hj) (by simp) (cvs_cons cv_refl (cvs_cons cv_refl cvs_nil)) hadd ?_
                simp only [killL, putS, upd_upd]
                refine runk_exec (by simp only [exa, beq_self_eq_true, ByteArray.size, Nat.reduceAdd, Nat.reduceLeDiff, Nat.reduceEqDiff, Nat.reduceMul, Int.reduceToNat, reduceIte, Int.reduceLE, Int.reduceNeg]; rfl) ?_
                repeat (first | refine W.seq ?_ | refine W.block ?_ | refine W.skip ?_ | refine W.exit ?_ | refine W.region tab_ok 0 (by decide) (exec_run (by simp only [exa, beq_self_eq_true, ByteArray.size, Nat.reduceAdd, Nat.reduceLeDiff, Nat.reduceEqDiff, Nat.reduceMul, Int.reduceToNat, reduceIte, Int.reduceLE, Int.reduceNeg]; rfl)) ?_)
                refine ⟨d + 1, hlt, by omega, ?_⟩
                refine le_mk ?sle ?mle ?swf ?mwf (kept_not hkeep) (by rfl)
                case swf => repeat (first | exact swf_top _ | refine swf_upd ?_ (by simp [A.ids, upd_app, lo1, lo5, lo44]))
                case mwf => exact wfO _ _ _ (Nat.le_refl _)
                case mle =>
                  refine mle_refl' ?_
                  dsimp only
                  rw [Nat.min_eq_right (show rg ≤ d + 1 by omega)]
                  exact setsM_congr fun k hk => FB_some hrr hr (k := k) hk
                case sle => repeat (first | exact sle_top _ | exact sle_refl _ | refine sle_upd ?_ (by first | rfl | (simp only [upd_app, killS_app, A.kill, entry_zero, entry_succ, Nat.reduceEqDiff, reduceIte, wrap_succ (show d + 1 < 9223372036854775808 by omega)]; done)))
          · intro hge
            simp only [decide_eq_false_iff_not, Int.ofNat_lt] at hge
            have hdN : d = N := by omega
            rw [hdN, Nat.min_eq_right (show rg ≤ N by omega)]
            have lo10 : ∀ K F X, setsM K N F X 10 = X 10 := fun K F X => setsM_lo (by decide)
            have lo50 : ∀ K F X, setsM K N F X 50 = X 50 := fun K F X => setsM_lo (by decide)
            obtain ⟨b1, hb1⟩ : ∃ b1 : O, b1 = (.box 24 [.c (.str cls), .c (.str name), .c (.int .i64 params), .c (.int .i64 rg), .c (.sl (code.map cIns))]) := ⟨_, rfl⟩
            have hb1i : b1.ids = [] := by rw [hb1]; rfl
            have farU : ∀ ws j, 100 ≤ j → XU b1 rg code.length ws j = none := fun ws j hj => XU_far (by omega)
            repeat (first | refine W.seq ?_ | refine W.block ?_ | refine W.skip ?_ | refine W.exit ?_ | refine W.region tab_ok 0 (by decide) (exec_run (by simp only [exa, beq_self_eq_true, ByteArray.size, Nat.reduceAdd, Nat.reduceLeDiff, Nat.reduceEqDiff, Nat.reduceMul, Int.reduceToNat, reduceIte, Int.reduceLE, Int.reduceNeg, lo10]; rfl)) ?_)
            refine W.newRowBox false 10 0 50 3 1 rfl rfl (by simp only [exa, beq_self_eq_true, ByteArray.size, Nat.reduceAdd, Nat.reduceLeDiff, Nat.reduceEqDiff, Nat.reduceMul, Int.reduceToNat, reduceIte, Int.reduceLE, Int.reduceNeg, lo50]) ?_
            repeat (first | refine W.seq ?_ | refine W.block ?_ | refine W.skip ?_ | refine W.exit ?_ | refine W.region tab_ok 0 (by decide) (exec_run (by simp only [exa, beq_self_eq_true, ByteArray.size, Nat.reduceAdd, Nat.reduceLeDiff, Nat.reduceEqDiff, Nat.reduceMul, Int.reduceToNat, reduceIte, Int.reduceLE, Int.reduceNeg]; rfl)) ?_)
            refine W.loop (ι := Nat) (fun i => ⟨upd (upd (upd (upd (upd (upd (upd (fun _ => .top) 1 (.ptr 1 0)) 4 (.c (.int .i64 code.length))) 5 (.ptr 5 0)) 7 (.map 44)) 10 (.ptr 10 0)) 77 (.c (.int .i64 code.length))) 78 (.c (.int .i64 i)), setsM (code.length + rg) N (FB code rg N) (XU b1 rg code.length (List.range i))⟩) (fun i => i ≤ code.length) (fun i => code.length - i) 0 ?startC (Nat.zero_le _) ?roundC
            case startC =>
              refine le_mk ?sle ?mle ?swf ?mwf (kept_not hkeep) (by rfl)
              case swf => repeat (first | exact swf_top _ | refine swf_upd ?_ (by simp [A.ids, upd_app, lo1, lo5, lo44, lo10, XU_1, XU_5, XU_44, XU_10]))
              case mwf => exact XU_wf hb1i (Nat.le_refl _)
              case mle =>
                refine mle_refl' ?_
                dsimp only
                rw [upd_comm _ _ _ (by decide), upd_upd, setsM_upd (by decide), setsM_upd (by decide), hb1]
                rfl
              case sle => repeat (first | exact sle_top _ | exact sle_refl _ | refine sle_upd ?_ (by first | rfl | (simp only [upd_app, killS_app, A.kill, entry_zero, entry_succ, Nat.reduceEqDiff, reduceIte]; done)))
            case roundC =>
              intro i hi
              repeat (first | refine W.seq ?_ | refine W.block ?_ | refine W.skip ?_ | refine W.exit ?_ | refine W.region tab_ok 0 (by decide) (exec_run (by simp only [exa, beq_self_eq_true, ByteArray.size, Nat.reduceAdd, Nat.reduceLeDiff, Nat.reduceEqDiff, Nat.reduceMul, Int.reduceToNat, reduceIte, Int.reduceLE, Int.reduceNeg]; rfl)) ?_)
              refine W.cond rfl ?_ ?_
              · intro hlt
                simp only [decide_eq_true_eq, Int.ofNat_lt] at hlt
                (repeat (first | refine W.seq ?_ | refine W.block ?_ | refine W.skip ?_ | refine W.exit ?_))
                refine W.region tab_ok 0 (by decide) (exec_run (by simp only [exa, beq_self_eq_true, ByteArray.size, Nat.reduceAdd, Nat.reduceLeDiff, Nat.reduceEqDiff, Nat.reduceMul, Int.reduceToNat, reduceIte, Int.reduceLE, Int.reduceNeg]; rfl)) ?_
                (repeat (first | refine W.seq ?_ | refine W.block ?_ | refine W.skip ?_ | refine W.exit ?_))
                refine W.regionK tab_ok 0 (by decide) ?_
                refine runk_split 3 (by simp only [exa, beq_self_eq_true, ByteArray.size, Nat.reduceAdd, Nat.reduceLeDiff, Nat.reduceEqDiff, Nat.reduceMul, Int.reduceToNat, reduceIte, Int.reduceLE, Int.reduceNeg, lo10, lo50, XU_10, XU_50]; rfl) ?_
                refine runk_appendM tab_ok 50 rfl rfl rfl rfl rfl rfl (by simp only [exa, beq_self_eq_true, ByteArray.size, Nat.reduceAdd, Nat.reduceLeDiff, Nat.reduceEqDiff, Nat.reduceMul, Int.reduceToNat, reduceIte, Int.reduceLE, Int.reduceNeg, lo10, lo50, XU_10, XU_50]) (by simp only [exa, beq_self_eq_true, ByteArray.size, Nat.reduceAdd, Nat.reduceLeDiff, Nat.reduceEqDiff, Nat.reduceMul, Int.reduceToNat, reduceIte, Int.reduceLE, Int.reduceNeg, lo10, lo50, XU_10, XU_50]; rfl) (by first | rfl | (simp only [exa, beq_self_eq_true, ByteArray.size, Nat.reduceAdd, Nat.reduceLeDiff, Nat.reduceEqDiff, Nat.reduceMul, Int.reduceToNat, reduceIte, Int.reduceLE, Int.reduceNeg, lo10, lo50, XU_10, XU_50]; rfl)) rfl rfl rfl rfl (nokeep hkeep) (by intro z hz; simp at hz; subst hz; rfl) (by simp only [List.length_map, List.length_append, List.length_cons, List.length_nil, List.length_range]; omega) (by decide) ?_
                refine runk_exec (by simp only [exa, beq_self_eq_true, ByteArray.size, Nat.reduceAdd, Nat.reduceLeDiff, Nat.reduceEqDiff, Nat.reduceMul, Int.reduceToNat, reduceIte, Int.reduceLE, Int.reduceNeg, lo10, XU_10, lo50, XU_50]; rfl) ?_
                repeat (first | refine W.seq ?_ | refine W.block ?_ | refine W.skip ?_ | refine W.exit ?_ | refine W.region tab_ok 0 (by decide) (exec_run (by simp only [exa, beq_self_eq_true, ByteArray.size, Nat.reduceAdd, Nat.reduceLeDiff, Nat.reduceEqDiff, Nat.reduceMul, Int.reduceToNat, reduceIte, Int.reduceLE, Int.reduceNeg]; rfl)) ?_)
                refine ⟨i + 1, hlt, by omega, ?_⟩
                refine le_mk ?sle ?mle ?swf ?mwf (kept_not hkeep) (by rfl)
                case swf => repeat (first | exact swf_top _ | refine swf_upd ?_ (by simp [A.ids, upd_app, lo1, lo5, lo44, lo10, XU_1, XU_5, XU_44, XU_10]))
                case mwf => exact XU_wf hb1i (Nat.le_refl _)
                case mle =>
                  refine mle_refl' ?_
                  dsimp only
                  rw [setsM_kill (by decide), setsM_upd (by decide), setsM_upd (by decide), ← XU_turn (ws := List.range i) (ws' := List.range (i + 1)) hb1i, List.range_succ, List.map_append]
                  rfl
                case sle => repeat (first | exact sle_top _ | exact sle_refl _ | refine sle_upd ?_ (by first | rfl | (simp only [upd_app, killS_app, A.kill, entry_zero, entry_succ, Nat.reduceEqDiff, reduceIte, wrap_succ (show i + 1 < 9223372036854775808 by omega)]; done)))
              · intro hge
                simp only [decide_eq_false_iff_not, Int.ofNat_lt] at hge
                obtain rfl : i = code.length := by omega
                have hx1 := XU_1 (b1 := b1) (rg := rg) (n := code.length) (ws := List.range code.length)
                rw [hb1] at hx1
                have hnewD := newM_ok (K := code.length + rg) (F := FB code rg N) (X := XU b1 rg code.length (List.range code.length)) hN1 (farU _)
                rw [← FD_zero rg, hb1] at hnewD
                rw [hb1]
                (repeat (first | refine W.seq ?_ | refine W.block ?_ | refine W.skip ?_ | refine W.exit ?_))
                refine W.region tab_ok 0 (by decide) (exec_run (by simp only [exa, beq_self_eq_true, ByteArray.size, Nat.reduceAdd, Nat.reduceLeDiff, Nat.reduceEqDiff, Nat.reduceMul, Int.reduceToNat, reduceIte, Int.reduceLE, Int.reduceNeg]; rfl)) ?_
                (repeat (first | refine W.seq ?_ | refine W.block ?_ | refine W.skip ?_ | refine W.exit ?_))
                refine W.regionK tab_ok 0 (by decide) ?_
                refine runk_split 4 (by simp only [exa, beq_self_eq_true, ByteArray.size, Nat.reduceAdd, Nat.reduceLeDiff, Nat.reduceEqDiff, Nat.reduceMul, Int.reduceToNat, reduceIte, Int.reduceLE, Int.reduceNeg, lo1, hx1, hwN]; rfl) ?_
                refine runk_callE (D := []) rfl rfl rfl rfl rfl (fun j hj => by simp at hj) (by simp) (cvs_cons cv_refl cvs_nil) hnewD ?_
                simp only [killL, putS, upd_upd]
                refine runk_exec (by simp only [exa, beq_self_eq_true, ByteArray.size, Nat.reduceAdd, Nat.reduceLeDiff, Nat.reduceEqDiff, Nat.reduceMul, Int.reduceToNat, reduceIte, Int.reduceLE, Int.reduceNeg]; rfl) ?_
                repeat (first | refine W.seq ?_ | refine W.block ?_ | refine W.skip ?_ | refine W.exit ?_ | refine W.region tab_ok 0 (by decide) (exec_run (by simp only [exa, beq_self_eq_true, ByteArray.size, Nat.reduceAdd, Nat.reduceLeDiff, Nat.reduceEqDiff, Nat.reduceMul, Int.reduceToNat, reduceIte, Int.reduceLE, Int.reduceNeg, lo1, hx1]; rfl)) ?_)
                rw [← hb1] at hx1 ⊢
                refine W.loop (ι := Nat) (fun r => ⟨upd (upd (upd (upd (upd (upd (upd (upd (upd (fun _ => .top) 1 (.ptr 1 0)) 4 (.c (.int .i64 code.length))) 5 (.ptr 5 0)) 7 (.map 44)) 10 (.ptr 10 0)) 12 (.fn 20 [5, 10])) 13 (.ptr (sN (code.length + rg)) 0)) 93 (.c (.int .i64 rg))) 94 (.c (.int .i64 r)), setsM (code.length + rg + 1) N (setF (FB code rg N) (code.length + rg) (FD rg r)) (XU b1 rg code.length (List.range code.length))⟩) (fun r => r ≤ rg) (fun r => rg - r) 0 ?startD (Nat.zero_le _) ?roundD
                case startD =>
                  refine le_mk ?sle ?mle ?swf ?mwf (kept_not hkeep) (by rfl)
                  case swf => repeat (first | exact swf_top _ | refine swf_upd ?_ (by simp [A.ids, upd_app, lo1, lo5, lo44, lo10, XU_1, XU_5, XU_44, XU_10, setsM_isSome_s (show code.length + rg < code.length + rg + 1 by omega)]))
                  case mwf => exact XU_wf hb1i (by omega)
                  case mle => exact mle_refl' rfl
                  case sle => repeat (first | exact sle_top _ | exact sle_refl _ | refine sle_upd ?_ (by first | rfl | (simp only [upd_app, killS_app, A.kill, entry_zero, entry_succ, Nat.reduceEqDiff, reduceIte]; done)))
                case roundD =>
                  intro r hr
                  repeat (first | refine W.seq ?_ | refine W.block ?_ | refine W.skip ?_ | refine W.exit ?_ | refine W.region tab_ok 0 (by decide) (exec_run (by simp only [exa, beq_self_eq_true, ByteArray.size, Nat.reduceAdd, Nat.reduceLeDiff, Nat.reduceEqDiff, Nat.reduceMul, Int.reduceToNat, reduceIte, Int.reduceLE, Int.reduceNeg]; rfl)) ?_)
                  refine W.cond rfl ?_ ?_
                  · intro hlt
                    simp only [decide_eq_true_eq, Int.ofNat_lt] at hlt
                    have hw1 : IntKind.i64.wrap ((rg : Int) - 1) = (rg : Int) - 1 := by rw [IntKind.wrap_i64]; omega
                    have hw2 : IntKind.i64.wrap ((rg : Int) - 1 - (r : Int)) = ((rg - 1 - r : Nat) : Int) := by rw [IntKind.wrap_i64]; omega
                    have hadd := addM_ok (K := code.length + rg + 1) (F := setF (FB code rg N) (code.length + rg) (FD rg r)) (X := XU b1 rg code.length (List.range code.length)) hN1 (farU _) (k := code.length + rg) (by omega) (rg - 1 - r)
                    rw [if_pos (show rg - 1 - r < N by omega), setF_self, FD_succ hlt] at hadd
                    rw [hb1] at hadd hx1 ⊢
                    (repeat (first | refine W.seq ?_ | refine W.block ?_ | refine W.skip ?_ | refine W.exit ?_))
                    refine W.region tab_ok 0 (by decide) (exec_run (by simp only [exa, beq_self_eq_true, ByteArray.size, Nat.reduceAdd, Nat.reduceLeDiff, Nat.reduceEqDiff, Nat.reduceMul, Int.reduceToNat, reduceIte, Int.reduceLE, Int.reduceNeg]; rfl)) ?_
                    (repeat (first | refine W.seq ?_ | refine W.block ?_ | refine W.skip ?_ | refine W.exit ?_))
                    refine W.regionK tab_ok 0 (by decide) ?_
                    refine runk_split 6 (by simp only [exa, beq_self_eq_true, ByteArray.size, Nat.reduceAdd, Nat.reduceLeDiff, Nat.reduceEqDiff, Nat.reduceMul, Int.reduceToNat, reduceIte, Int.reduceLE, Int.reduceNeg, lo1, hx1, hw1, hw2]; rfl) ?_
                    refine runk_callE (D := []) rfl rfl rfl rfl rfl (fun j hj => by simp at hj) (by simp) (cvs_cons cv_refl (cvs_cons cv_refl cvs_nil)) hadd ?_
                    simp only [killL, putS, upd_upd]
                    refine runk_exec (by simp only [exa, beq_self_eq_true, ByteArray.size, Nat.reduceAdd, Nat.reduceLeDiff, Nat.reduceEqDiff, Nat.reduceMul, Int.reduceToNat, reduceIte, Int.reduceLE, Int.reduceNeg]; rfl) ?_
                    repeat (first | refine W.seq ?_ | refine W.block ?_ | refine W.skip ?_ | refine W.exit ?_ | refine W.region tab_ok 0 (by decide) (exec_run (by simp only [exa, beq_self_eq_true, ByteArray.size, Nat.reduceAdd, Nat.reduceLeDiff, Nat.reduceEqDiff, Nat.reduceMul, Int.reduceToNat, reduceIte, Int.reduceLE, Int.reduceNeg]; rfl)) ?_)
                    refine ⟨r + 1, hlt, by omega, ?_⟩
                    rw [← hb1]
                    refine le_mk ?sle ?mle ?swf ?mwf (kept_not hkeep) (by rfl)
                    case swf => repeat (first | exact swf_top _ | refine swf_upd ?_ (by simp [A.ids, upd_app, lo1, lo5, lo44, lo10, XU_1, XU_5, XU_44, XU_10, setsM_isSome_s (show code.length + rg < code.length + rg + 1 by omega)]))
                    case mwf => exact XU_wf hb1i (by omega)
                    case mle =>
                      refine mle_refl' ?_
                      dsimp only
                      refine setsM_congr fun k _ => ?_
                      unfold setF
                      split <;> rfl
                    case sle => repeat (first | exact sle_top _ | exact sle_refl _ | refine sle_upd ?_ (by first | rfl | (simp only [upd_app, killS_app, A.kill, entry_zero, entry_succ, Nat.reduceEqDiff, reduceIte, wrap_succ (show r + 1 < 9223372036854775808 by omega)]; done)))
                  · intro hge
                    simp only [decide_eq_false_iff_not, Int.ofNat_lt] at hge
                    have hrR : r = rg := by omega
                    rw [hrR]
                    have hfl := flow_ok b1 hb1i rg code.length (code.length + rg + 1) (setF (FB code rg N) (code.length + rg) (FD rg rg)) (List.range code.length) (by omega) (by omega) (by rw [List.length_range]; omega) (code.length + rg) 0 (by omega) (by omega) (by omega) (fun d hd => by rw [setF_self, FD_all] at hd; omega)
                    rw [← hN] at hfl
                    obtain ⟨ws0, hws0⟩ : ∃ ws0, ws0 = (if chgB (setF (FB code rg N) (code.length + rg) (FD rg rg) 0) (orF (setF (FB code rg N) (code.length + rg) (FD rg rg) 0) (setF (FB code rg N) (code.length + rg) (FD rg rg) (code.length + rg))) (nw N) = true then List.range code.length ++ [0] else List.range code.length) := ⟨_, rfl⟩
                    rw [← hws0] at hfl
                    have hws0r : ∀ j, j < code.length → j ∈ ws0 := fun j hj => by
                      rw [hws0]; split
                      · exact List.mem_append_left _ (List.mem_range.2 hj)
                      · exact List.mem_range.2 hj
                    have hws0l : ∀ j ∈ ws0, j < code.length := fun j hj => by
                      rw [hws0] at hj; split at hj
                      · rcases List.mem_append.1 hj with hj | hj
                        · exact List.mem_range.1 hj
                        · have : j = 0 := by simpa using hj
                          omega
                      · exact List.mem_range.1 hj
                    have hws0n : ws0.length ≤ code.length + 1 := by rw [hws0]; split <;> simp
                    obtain ⟨In0, hIn0⟩ : ∃ In0 : Nat → Nat → Bool, In0 = setF noF 0 (fun x => decide (x < rg)) := ⟨_, rfl⟩
                    have hI00 : In0 0 = fun x => decide (x < rg) := by rw [hIn0]; exact setF_self
                    have hI0j : ∀ j, j ≠ 0 → In0 j = fun _ => false := fun j hj => by rw [hIn0, setF_other hj]; rfl
                    have hFE0 : ∀ k, k < code.length + rg + 1 → setF (setF (FB code rg N) (code.length + rg) (FD rg rg)) 0 (orF (setF (FB code rg N) (code.length + rg) (FD rg rg) 0) (setF (FB code rg N) (code.length + rg) (FD rg rg) (code.length + rg))) k = FE code rg In0 k := fun k hk => by
                      by_cases e0 : k = 0
                      · subst e0
                        rw [setF_self, FE_in (by omega), hI00, setF_other (by omega), setF_self, FB_in (by omega)]
                        funext x
                        unfold orF
                        rw [FD_all']; simp
                      · rw [setF_other e0]
                        by_cases hk2 : k < code.length
                        · rw [FE_in hk2, hI0j k e0, setF_other (by omega), FB_in hk2]
                        · unfold FE; rw [if_neg hk2, hN]
                    have hinv0 : UInv code rg In0 ws0 := by
                      refine ⟨fun j d hd => ?_, fun d hd => by rw [hI00]; simpa using hd, fun i k d hi hiw => absurd (hws0r i hi) hiw, hws0l⟩
                      by_cases ej : j = 0
                      · subst ej
                        rw [hI00] at hd
                        have hd : d < rg := by simpa using hd
                        exact ⟨.entry hd, by rw [rgD_lo hd]; rfl⟩
                      · rw [hI0j j ej] at hd; cases hd
                    have hpt : ∀ In : Nat → Nat → Bool, code.length * N - szA In code.length N ≤ 2000 * 12000 := fun In => by
                      have : code.length * N ≤ 2000 * 12000 := Nat.mul_le_mul (by omega) (by omega)
                      omega
                    have hFEb : ∀ {In ws}, UInv code rg In ws → ∀ k, k < code.length + rg + 1 → ∀ d, FE code rg In k d = true → d < N := fun {In ws} hv k hk d hd => by
                      by_cases hk2 : k < code.length
                      · rw [FE_in hk2] at hd; rw [hN]; exact rgD_N hok' (hv.snd k d hd).2
                      · by_cases hk3 : k < code.length + rg
                        · obtain ⟨e, rfl⟩ : ∃ e, k = code.length + e := ⟨k - code.length, by omega⟩
                          rw [hN]; exact (FE_own (by omega)).1 hd |>.1
                        · obtain rfl : k = code.length + rg := by omega
                          unfold FE at hd
                          rw [if_neg (by omega), setF_self, FD_all] at hd
                          omega
                    (repeat (first | refine W.seq ?_ | refine W.block ?_ | refine W.skip ?_ | refine W.exit ?_))
                    refine W.regionK tab_ok 0 (by decide) ?_
                    refine runk_split 2 (by simp only [exa, beq_self_eq_true, ByteArray.size, Nat.reduceAdd, Nat.reduceLeDiff, Nat.reduceEqDiff, Nat.reduceMul, Int.reduceToNat, reduceIte, Int.reduceLE, Int.reduceNeg]; rfl) ?_
                    refine runk_callE (D := [50]) rfl rfl rfl rfl rfl (fun j hj => nokeep hkeep) (fun j hj => by simp at hj; rcases hj with rfl | rfl; exact ⟨_, _, (lo5 _ _ _).trans XU_5⟩; exact ⟨_, _, (lo10 _ _ _).trans XU_10⟩) (cvs_cons cv_refl (cvs_cons cv_refl (cvs_cons cv_refl (cvs_cons cv_refl cvs_nil)))) hfl ?_
                    simp only [killL, putS, upd_upd]
                    refine runk_exec (by simp only [exa, beq_self_eq_true, ByteArray.size, Nat.reduceAdd, Nat.reduceLeDiff, Nat.reduceEqDiff, Nat.reduceMul, Int.reduceToNat, reduceIte, Int.reduceLE, Int.reduceNeg]; rfl) ?_
                    (repeat (first | refine W.seq ?_ | refine W.block ?_ | refine W.skip ?_ | refine W.exit ?_))
                    refine W.loop (ι := (Nat → Nat → Bool) × List Nat) (fun y => ⟨upd (upd (upd (upd (upd (upd (fun _ => .top) 1 (.ptr 1 0)) 4 (.c (.int .i64 code.length))) 5 (.ptr 5 0)) 7 (.map 44)) 10 (.ptr 10 0)) 12 (.fn 20 [5, 10]), setsM (code.length + rg + 1) N (FE code rg y.1) (XU b1 rg code.length y.2)⟩) (fun y => UInv code rg y.1 y.2 ∧ (code.length * N - szA y.1 code.length N) + y.2.length ≤ 1000000000) (fun y => (code.length * N - szA y.1 code.length N) + y.2.length) (In0, ws0) ?startE ⟨hinv0, by have := hpt In0; simp only; omega⟩ ?roundE
                    case startE =>
                      refine le_mk ?sle ?mle ?swf ?mwf (kept_not hkeep) (by rfl)
                      case swf => repeat (first | exact swf_top _ | refine swf_upd ?_ (by simp [A.ids, upd_app, lo1, lo5, lo44, lo10, XU_1, XU_5, XU_44, XU_10]))
                      case mwf => exact XU_wf hb1i (by omega)
                      case mle => exact mle_refl' (setsM_congr hFE0)
                      case sle => repeat (first | exact sle_top _ | exact sle_refl _ | refine sle_upd ?_ (by first | rfl | (simp only [upd_app, killS_app, A.kill, entry_zero, entry_succ, Nat.reduceEqDiff, reduceIte, el50, Bool.false_eq_true]; done)))
                    case roundE =>
                      rintro ⟨In, ws⟩ ⟨hinv, hbd⟩
                      simp only at hinv hbd
                      cases ws with
                      | nil =>
                        rw [hb1] at hb1i ⊢
                        have hed' := hed (code.length + rg + 1) (FE code rg In) 29 44 (by decide) (by decide) (by omega) (fun j hj => XU_far (by omega)) XU_29 XU_44 (by rw [← hN]; exact fun k hk => hFEb hinv k hk) (fun e he d => by
                          rw [FE_own he]
                          exact ⟨fun h => h.2, fun h => ⟨(rgD_lt hok' h).2, h⟩⟩) (fun j d hj hd => by rw [FE_in hj]; exact hinv.all hok' hj hd)
                        rw [← hN] at hed'
                        repeat (first | refine W.seq ?_ | refine W.block ?_ | refine W.skip ?_ | refine W.exit ?_ | refine W.region tab_ok 0 (by decide) (exec_run (by simp only [exa, beq_self_eq_true, ByteArray.size, Nat.reduceAdd, Nat.reduceLeDiff, Nat.reduceEqDiff, Nat.reduceMul, Int.reduceToNat, reduceIte, Int.reduceLE, Int.reduceNeg, lo10, XU_10, lo50, XU_50, List.map_nil, List.length_nil, Int.reduceLT, decide_false]; rfl)) ?_)
                        refine W.cond rfl (fun h => absurd h (by simp)) (fun _ => ?_)
                        (repeat (first | refine W.seq ?_ | refine W.block ?_ | refine W.skip ?_ | refine W.exit ?_))
                        refine W.regionK tab_ok 0 (by decide) ?_
                        refine runk_split 3 (by simp only [exa, beq_self_eq_true, ByteArray.size, Nat.reduceAdd, Nat.reduceLeDiff, Nat.reduceEqDiff, Nat.reduceMul, Int.reduceToNat, reduceIte, Int.reduceLE, Int.reduceNeg, lo1, XU_1, lo5, XU_5]; rfl) ?_
                        refine runk_callE (D := []) rfl rfl rfl rfl rfl (fun j hj => by simp at hj) (by simp) (cvs_cons cv_refl (cvs_cons cv_refl (cvs_cons cv_refl cvs_nil))) hed' ?_
                        simp only [killL, putS, upd_upd]
                        refine runk_exec (by simp only [exa, beq_self_eq_true, ByteArray.size, Nat.reduceAdd, Nat.reduceLeDiff, Nat.reduceEqDiff, Nat.reduceMul, Int.reduceToNat, reduceIte, Int.reduceLE, Int.reduceNeg]; rfl) ?_
                        refine W.ret ⟨.inr rfl, by rfl, ?_⟩
                        simp only [Tryd.f8, resA, resOne, toT, fin, exa, beq_self_eq_true, ByteArray.size, Nat.reduceAdd, Nat.reduceLeDiff, Nat.reduceEqDiff, Nat.reduceMul, Int.reduceToNat, reduceIte, Int.reduceLE, Int.reduceNeg]
                      | cons i ws =>
                        have hi : i < code.length := hinv.lt i (by simp)
                        obtain ⟨x, hx⟩ : ∃ x, code[i]? = some x := ⟨_, List.getElem?_eq_getElem hi⟩
                        have hpos : (0 : Int) < ((ws.length + 1 : Nat) : Int) := by omega
                        have hp1 : 0 < ws.length + 1 := by omega
                        have hle1 : 1 ≤ ws.length + 1 := by omega
                        have h50c : XU b1 rg code.length (i :: ws) 50 = some (.mrow 3 1 (cN i :: ws.map cN)) := XU_50
                        have hw1 : ws.length ≤ 1000000000 := by simp at hbd; omega
                        repeat (first | refine W.seq ?_ | refine W.block ?_ | refine W.skip ?_ | refine W.exit ?_ | refine W.region tab_ok 0 (by decide) (exec_run (by simp only [exa, beq_self_eq_true, ByteArray.size, Nat.reduceAdd, Nat.reduceLeDiff, Nat.reduceEqDiff, Nat.reduceMul, Int.reduceToNat, reduceIte, Int.reduceLE, Int.reduceNeg, lo10, XU_10, lo50, h50c, List.length_cons, List.length_map, hpos, decide_true]; rfl)) ?_)
                        refine W.cond rfl (fun _ => ?_) (fun h => absurd h (by simp))
                        repeat (first | refine W.seq ?_ | refine W.block ?_ | refine W.skip ?_ | refine W.exit ?_ | refine W.region tab_ok 0 (by decide) (exec_run (by simp only [exa, beq_self_eq_true, ByteArray.size, Nat.reduceAdd, Nat.reduceLeDiff, Nat.reduceEqDiff, Nat.reduceMul, Int.reduceToNat, reduceIte, Int.reduceLE, Int.reduceNeg, lo10, XU_10, lo50, h50c, List.length_cons, List.length_map, hpos, hp1, hle1, Nat.le_refl, and_self, List.getElem?_cons_zero, decide_true, cN]; rfl)) ?_)
                        refine W.rewinBox 10 0 50 (by simp only [exa, beq_self_eq_true, ByteArray.size, Nat.reduceAdd, Nat.reduceLeDiff, Nat.reduceEqDiff, Nat.reduceMul, Int.reduceToNat, reduceIte, Int.reduceLE, Int.reduceNeg]; rfl) rfl (by simp only [exa, beq_self_eq_true, ByteArray.size, Nat.reduceAdd, Nat.reduceLeDiff, Nat.reduceEqDiff, Nat.reduceMul, Int.reduceToNat, reduceIte, Int.reduceLE, Int.reduceNeg, lo50, XU_50]; rfl) (by simp) (by decide) (nokeep hkeep) ?_
                        refine W.weaken (st' := ⟨upd (upd (upd (upd (upd (upd (upd (fun _ => .top) 1 (.ptr 1 0)) 4 (.c (.int .i64 code.length))) 5 (.ptr 5 0)) 7 (.map 44)) 10 (.ptr 10 0)) 12 (.fn 20 [5, 10])) 15 (.c (.int .i64 i)), setsM (code.length + rg + 1) N (FE code rg In) (XU b1 rg code.length ws)⟩) ?_ ?_
                        · skip
                          refine le_mk ?sle ?mle ?swf ?mwf (kept_not hkeep) (by rfl)
                          case swf =>
                            repeat (first | exact swf_top _ | refine swf_upd ?_ (by simp [A.ids, upd_app, lo1, lo5, lo44, lo10, XU_1, XU_5, XU_44, XU_10, setsM_isSome_s (show code.length + rg + 1 < code.length + rg + 2 by omega)]))
                          case mwf => exact XU_wf hb1i (by omega)
                          case mle =>
                            refine mle_refl' ?_
                            dsimp only
                            rw [XU_pop, setsM_kill (by decide), setsM_upd (by decide), setsM_upd (by decide), ← XU_turn (ws := i :: ws) (ws' := ws) hb1i]
                            congr 4
                            simp [List.take_of_length_le]
                          case sle => repeat (first | exact sle_top _ | exact sle_refl _ | refine sle_upd ?_ (by first | rfl | (simp only [upd_app, killS_app, A.kill, entry_zero, entry_succ, Nat.reduceEqDiff, reduceIte, el50, Bool.false_eq_true]; done)))
                        have hx1w : XU b1 rg code.length ws 1 = some (.box 24 [.c (.str cls), .c (.str name), .c (.int .i64 params), .c (.int .i64 rg), .c (.sl (code.map cIns))]) := by rw [XU_1, hb1]
                        have hi0 : (0 : Int) ≤ (i : Int) := by omega
                        have hcl := cloneM_ok (K := code.length + rg + 1) (F := FE code rg In) (X := XU b1 rg code.length ws) hN1 (farU _) (k := i) (by omega)
                        rw [FE_in hi] at hcl
                        (repeat (first | refine W.seq ?_ | refine W.block ?_ | refine W.skip ?_ | refine W.exit ?_))
                        refine W.regionK tab_ok 0 (by decide) ?_
                        refine runk_split 4 (by simp only [exa, beq_self_eq_true, ByteArray.size, Nat.reduceAdd, Nat.reduceLeDiff, Nat.reduceEqDiff, Nat.reduceMul, Int.reduceToNat, reduceIte, Int.reduceLE, Int.reduceNeg, lo5, XU_5, lo29, XU_29, inL_len, inL_at hi, hi, hi0, Int.toNat_natCast, and_self]; rfl) ?_
                        refine runk_callE (D := []) rfl rfl rfl rfl rfl (fun j hj => by simp at hj) (by simp) (cvs_cons cv_refl cvs_nil) hcl ?_
                        simp only [killL, putS, upd_upd]
                        refine runk_exec (by simp only [exa, beq_self_eq_true, ByteArray.size, Nat.reduceAdd, Nat.reduceLeDiff, Nat.reduceEqDiff, Nat.reduceMul, Int.reduceToNat, reduceIte, Int.reduceLE, Int.reduceNeg]; rfl) ?_
                        (repeat (first | refine W.seq ?_ | refine W.block ?_ | refine W.skip ?_ | refine W.exit ?_))
                        refine W.regionK tab_ok 0 (by decide) ?_
                        refine runk_split 5 (by simp only [exa, beq_self_eq_true, ByteArray.size, Nat.reduceAdd, Nat.reduceLeDiff, Nat.reduceEqDiff, Nat.reduceMul, Int.reduceToNat, reduceIte, Int.reduceLE, Int.reduceNeg, lo1, hx1w, at_map hx, List.length_map, hi, hi0, Int.toNat_natCast, and_self]; rfl) ?_
                        refine runk_call rfl rfl rfl rfl rfl (by simp) (cvs_cons cv_refl cvs_nil) (def_ok x _) ?_
                        refine runk_exec (by simp only [exa, beq_self_eq_true, ByteArray.size, Nat.reduceAdd, Nat.reduceLeDiff, Nat.reduceEqDiff, Nat.reduceMul, Int.reduceToNat, reduceIte, Int.reduceLE, Int.reduceNeg]; rfl) ?_
                        have hSN : ∀ d, In i d = true → d < N := fun d hd => by rw [hN]; exact rgD_N hok' (hinv.snd i d hd).2
                        have houtN : ∀ d, outD code rg In i d = true → d < N := fun d hd => by
                          unfold outD at hd
                          split at hd
                          · exact hSN d hd
                          · simp only [Bool.or_eq_true, Bool.and_eq_true, decide_eq_true_eq] at hd
                            rcases hd with h | h
                            · exact hSN d h.1
                            · omega
                        refine W.mono (K := fun e st' => e = Exit.normal ∧ Le R.keep st' ⟨upd (upd (upd (upd (upd (upd (upd (upd (fun _ => .top) 1 (.ptr 1 0)) 4 (.c (.int .i64 code.length))) 5 (.ptr 5 0)) 7 (.map 44)) 10 (.ptr 10 0)) 12 (.fn 20 [5, 10])) 15 (.c (.int .i64 i))) 16 (.ptr (sN (code.length + rg + 1)) 0), setsM (code.length + rg + 1 + 1) N (setF (FE code rg In) (code.length + rg + 1) (outD code rg In i)) (XU b1 rg code.length ws)⟩) ?_ ?_
                        · cases hd : hasD x.kind with
                          | false =>
                            have hdf : dfI x = -1 := by unfold dfI; rw [hd]; rfl
                            have hdn : dfN code i = none := by unfold dfN; rw [hx]; simp [hd]
                            have hou : outD code rg In i = In i := by funext d; unfold outD; rw [hdn]
                            rw [hdf, hou]
                            repeat (first | refine W.seq ?_ | refine W.block ?_ | refine W.skip ?_ | refine W.exit ?_ | refine W.region tab_ok 0 (by decide) (exec_run (by simp only [exa, beq_self_eq_true, ByteArray.size, Nat.reduceAdd, Nat.reduceLeDiff, Nat.reduceEqDiff, Nat.reduceMul, Int.reduceToNat, reduceIte, Int.reduceLE, Int.reduceNeg, Int.reduceNeg, Int.reduceLE, decide_false]; rfl)) ?_)
                            refine W.cond rfl (fun h => absurd h (by simp)) (fun _ => ?_)
                            repeat (first | refine W.seq ?_ | refine W.block ?_ | refine W.skip ?_ | refine W.exit ?_ | refine W.region tab_ok 0 (by decide) (exec_run (by simp only [exa, beq_self_eq_true, ByteArray.size, Nat.reduceAdd, Nat.reduceLeDiff, Nat.reduceEqDiff, Nat.reduceMul, Int.reduceToNat, reduceIte, Int.reduceLE, Int.reduceNeg]; rfl)) ?_)
                            refine ⟨rfl, ?_⟩
                            refine le_mk ?sle ?mle ?swf ?mwf (kept_not hkeep) (by rfl)
                            case swf =>
                              repeat (first | exact swf_top _ | refine swf_upd ?_ (by simp [A.ids, upd_app, lo1, lo5, lo44, lo10, XU_1, XU_5, XU_44, XU_10, setsM_isSome_s (show code.length + rg + 1 < code.length + rg + 2 by omega)]))
                            case mwf => exact XU_wf hb1i (by omega)
                            case mle => exact mle_refl' rfl
                            case sle => repeat (first | exact sle_top _ | exact sle_refl _ | refine sle_upd ?_ (by first | rfl | (simp only [upd_app, killS_app, A.kill, entry_zero, entry_succ, Nat.reduceEqDiff, reduceIte, el50, Bool.false_eq_true]; done)))
                          | true =>
                            have hdb := okD_df hok' hx hd
                            obtain ⟨r, hr⟩ := Int.eq_ofNat_of_zero_le hdb.1
                            have hrr : r < rg := by omega
                            have hdf : dfI x = (r : Int) := by unfold dfI; rw [hd]; exact hr
                            have hdn : dfN code i = some r := by unfold dfN; rw [hx]; simp [hd, hr]
                            have hr0 := eq_true (show (0 : Int) ≤ (r : Int) by omega)
                            obtain ⟨qq, hth⟩ := own_there (rg := rg) (n := code.length) (m := rg) (r := r) (Nat.le_refl _) hrr (by omega)
                            obtain ⟨k0, hk0⟩ : ∃ k0, k0 = code.length + (rg - 1 - r) := ⟨_, rfl⟩
                            rw [← hk0] at hth
                            have hk0F : FE code rg In k0 = fun x => decide (x < rg + code.length ∧ rgD code rg x = some r) := by
                              funext d
                              rw [Bool.eq_iff_iff, hk0, FE_own (by omega), decide_eq_true_eq, show rg - 1 - (rg - 1 - r) = r by omega]
                            have hls := listM_ok (K := code.length + rg + 1 + 1) (F := setF (FE code rg In) (code.length + rg + 1) (In i)) (X := XU b1 rg code.length ws) hN1 (farU _) (k := k0) (by omega) (fun d hd => by
                              rw [setF_other (by omega), hk0F] at hd
                              simp only [decide_eq_true_eq] at hd
                              omega)
                            rw [setF_other (show k0 ≠ code.length + rg + 1 by omega)] at hls
                            obtain ⟨L, hL⟩ : ∃ L, L = elems (FE code rg In k0) N := ⟨_, rfl⟩
                            rw [← hL] at hls
                            have hLl : L.length ≤ N := by rw [hL]; exact elems_len _ _
                            have hLm : ∀ d, d ∈ L ↔ rgD code rg d = some r := fun d => by
                              rw [hL, mem_elems, hk0F, decide_eq_true_eq]
                              exact ⟨fun h => h.2.2, fun h => ⟨by have := (rgD_lt hok' h).2; omega, (rgD_lt hok' h).2, h⟩⟩
                            rw [hdf]
                            repeat (first | refine W.seq ?_ | refine W.block ?_ | refine W.skip ?_ | refine W.exit ?_ | refine W.region tab_ok 0 (by decide) (exec_run (by simp only [exa, beq_self_eq_true, ByteArray.size, Nat.reduceAdd, Nat.reduceLeDiff, Nat.reduceEqDiff, Nat.reduceMul, Int.reduceToNat, reduceIte, Int.reduceLE, Int.reduceNeg, hr0, decide_true]; rfl)) ?_)
                            refine W.cond rfl (fun _ => ?_) (fun h => absurd h (by simp))
                            (repeat (first | refine W.seq ?_ | refine W.block ?_ | refine W.skip ?_ | refine W.exit ?_))
                            refine W.regionK tab_ok 0 (by decide) ?_
                            refine runk_split 3 (by simp only [exa, beq_self_eq_true, ByteArray.size, Nat.reduceAdd, Nat.reduceLeDiff, Nat.reduceEqDiff, Nat.reduceMul, Int.reduceToNat, reduceIte, Int.reduceLE, Int.reduceNeg, lo44, XU_44, hth, Bool.false_eq_true]; rfl) ?_
                            refine runk_callE (D := []) rfl rfl rfl rfl rfl (fun j hj => by simp at hj) (by simp) (cvs_cons cv_refl cvs_nil) hls ?_
                            simp only [killL, putS, upd_upd]
                            refine runk_exec (by simp only [exa, beq_self_eq_true, ByteArray.size, Nat.reduceAdd, Nat.reduceLeDiff, Nat.reduceEqDiff, Nat.reduceMul, Int.reduceToNat, reduceIte, Int.reduceLE, Int.reduceNeg, List.length_map]; rfl) ?_
                            (repeat (first | refine W.seq ?_ | refine W.block ?_ | refine W.skip ?_ | refine W.exit ?_))
                            refine W.loop (ι := Nat) (fun t => ⟨upd (upd (upd (upd (upd (upd (upd (upd (upd (upd (upd (upd (fun _ => .top) 1 (.ptr 1 0)) 4 (.c (.int .i64 code.length))) 5 (.ptr 5 0)) 7 (.map 44)) 10 (.ptr 10 0)) 12 (.fn 20 [5, 10])) 15 (.c (.int .i64 i))) 16 (.ptr (sN (code.length + rg + 1)) 0)) 17 (.c (.int .i64 r))) 132 (.c (.sl (L.map cN)))) 133 (.c (.int .i64 L.length))) 134 (.c (.int .i64 t)), setsM (code.length + rg + 1 + 1) N (setF (FE code rg In) (code.length + rg + 1) (DL (In i) (L.take t))) (XU b1 rg code.length ws)⟩) (fun t => t ≤ L.length) (fun t => L.length - t) 0 ?startF (Nat.zero_le _) ?roundF
                            case startF =>
                              refine le_mk ?sle ?mle ?swf ?mwf (kept_not hkeep) (by rfl)
                              case swf =>
                                repeat (first | exact swf_top _ | refine swf_upd ?_ (by simp [A.ids, upd_app, lo1, lo5, lo44, lo10, XU_1, XU_5, XU_44, XU_10, setsM_isSome_s (show code.length + rg + 1 < code.length + rg + 2 by omega)]))
                              case mwf => exact XU_wf hb1i (by omega)
                              case mle => exact mle_refl' rfl
                              case sle => repeat (first | exact sle_top _ | exact sle_refl _ | refine sle_upd ?_ (by first | rfl | (simp only [upd_app, killS_app, A.kill, entry_zero, entry_succ, Nat.reduceEqDiff, reduceIte, el50, Bool.false_eq_true]; done)))
                            case roundF =>
                              intro t ht
                              repeat (first | refine W.seq ?_ | refine W.block ?_ | refine W.skip ?_ | refine W.exit ?_ | refine W.region tab_ok 0 (by decide) (exec_run (by simp only [exa, beq_self_eq_true, ByteArray.size, Nat.reduceAdd, Nat.reduceLeDiff, Nat.reduceEqDiff, Nat.reduceMul, Int.reduceToNat, reduceIte, Int.reduceLE, Int.reduceNeg]; rfl)) ?_)
                              refine W.cond rfl ?_ ?_
                              · intro htl
                                simp only [decide_eq_true_eq, Int.ofNat_lt] at htl
                                obtain ⟨d, hd⟩ : ∃ d, L[t]? = some d := ⟨_, List.getElem?_eq_getElem htl⟩
                                have hdl := delM_ok (K := code.length + rg + 1 + 1) (F := setF (FE code rg In) (code.length + rg + 1) (DL (In i) (L.take t))) (X := XU b1 rg code.length ws) hN1 (farU _) (k := code.length + rg + 1) (by omega) (fun d hd => by
                                  rw [setF_self] at hd
                                  exact hSN d (DL_iff.1 hd).1) d
                                rw [setF_self, setF_setF, ← DL_snoc] at hdl
                                (repeat (first | refine W.seq ?_ | refine W.block ?_ | refine W.skip ?_ | refine W.exit ?_))
                                refine W.region tab_ok 0 (by decide) (exec_run (by simp only [exa, beq_self_eq_true, ByteArray.size, Nat.reduceAdd, Nat.reduceLeDiff, Nat.reduceEqDiff, Nat.reduceMul, Int.reduceToNat, reduceIte, Int.reduceLE, Int.reduceNeg, at_map hd, cN]; rfl)) ?_
                                (repeat (first | refine W.seq ?_ | refine W.block ?_ | refine W.skip ?_ | refine W.exit ?_))
                                refine W.regionK tab_ok 0 (by decide) ?_
                                refine runk_split 2 (by simp only [exa, beq_self_eq_true, ByteArray.size, Nat.reduceAdd, Nat.reduceLeDiff, Nat.reduceEqDiff, Nat.reduceMul, Int.reduceToNat, reduceIte, Int.reduceLE, Int.reduceNeg]; rfl) ?_
                                refine runk_callE (D := []) rfl rfl rfl rfl rfl (fun j hj => by simp at hj) (by simp) (cvs_cons cv_refl (cvs_cons cv_refl cvs_nil)) hdl ?_
                                simp only [killL, putS, upd_upd]
                                refine runk_exec (by simp only [exa, beq_self_eq_true, ByteArray.size, Nat.reduceAdd, Nat.reduceLeDiff, Nat.reduceEqDiff, Nat.reduceMul, Int.reduceToNat, reduceIte, Int.reduceLE, Int.reduceNeg]; rfl) ?_
                                repeat (first | refine W.seq ?_ | refine W.block ?_ | refine W.skip ?_ | refine W.exit ?_ | refine W.region tab_ok 0 (by decide) (exec_run (by simp only [exa, beq_self_eq_true, ByteArray.size, Nat.reduceAdd, Nat.reduceLeDiff, Nat.reduceEqDiff, Nat.reduceMul, Int.reduceToNat, reduceIte, Int.reduceLE, Int.reduceNeg]; rfl)) ?_)
                                refine ⟨t + 1, htl, by omega, ?_⟩
                                refine le_mk ?sle ?mle ?swf ?mwf (kept_not hkeep) (by rfl)
                                case swf =>
                                  repeat (first | exact swf_top _ | refine swf_upd ?_ (by simp [A.ids, upd_app, lo1, lo5, lo44, lo10, XU_1, XU_5, XU_44, XU_10, setsM_isSome_s (show code.length + rg + 1 < code.length + rg + 2 by omega)]))
                                case mwf => exact XU_wf hb1i (by omega)
                                case mle => exact mle_refl' (by rw [List.take_add_one, hd]; rfl)
                                case sle => repeat (first | exact sle_top _ | exact sle_refl _ | refine sle_upd ?_ (by first | rfl | (simp only [upd_app, killS_app, A.kill, entry_zero, entry_succ, Nat.reduceEqDiff, reduceIte, el50, Bool.false_eq_true, wrap_succ (show t + 1 < 9223372036854775808 by omega)]; done)))
                              · intro htl
                                simp only [decide_eq_false_iff_not, Int.ofNat_lt] at htl
                                obtain rfl : t = L.length := by omega
                                have hwri : IntKind.i64.wrap ((rg : Int) + (i : Int)) = ((rg + i : Nat) : Int) := by rw [IntKind.wrap_i64]; omega
                                have hadd := addM_ok (K := code.length + rg + 1 + 1) (F := setF (FE code rg In) (code.length + rg + 1) (DL (In i) (L.take L.length))) (X := XU b1 rg code.length ws) hN1 (farU _) (k := code.length + rg + 1) (by omega) (rg + i)
                                rw [if_pos (show rg + i < N by omega), setF_self, setF_setF] at hadd
                                have hou : addF (DL (In i) (L.take L.length)) (rg + i) = outD code rg In i := by
                                  funext d
                                  rw [Bool.eq_iff_iff]
                                  unfold addF outD
                                  rw [hdn, Bool.or_eq_true, DL_iff, List.take_length, hLm]
                                  simp
                                rw [hou] at hadd
                                repeat (first | refine W.seq ?_ | refine W.block ?_ | refine W.skip ?_ | refine W.exit ?_ | refine W.region tab_ok 0 (by decide) (exec_run (by simp only [exa, beq_self_eq_true, ByteArray.size, Nat.reduceAdd, Nat.reduceLeDiff, Nat.reduceEqDiff, Nat.reduceMul, Int.reduceToNat, reduceIte, Int.reduceLE, Int.reduceNeg]; rfl)) ?_)
                                refine W.regionK tab_ok 0 (by decide) ?_
                                refine runk_split 5 (by simp only [exa, beq_self_eq_true, ByteArray.size, Nat.reduceAdd, Nat.reduceLeDiff, Nat.reduceEqDiff, Nat.reduceMul, Int.reduceToNat, reduceIte, Int.reduceLE, Int.reduceNeg, lo1, hx1w, hwri]; rfl) ?_
                                refine runk_callE (D := []) rfl rfl rfl rfl rfl (fun j hj => by simp at hj) (by simp) (cvs_cons cv_refl (cvs_cons cv_refl cvs_nil)) hadd ?_
                                simp only [killL, putS, upd_upd]
                                refine runk_exec (by simp only [exa, beq_self_eq_true, ByteArray.size, Nat.reduceAdd, Nat.reduceLeDiff, Nat.reduceEqDiff, Nat.reduceMul, Int.reduceToNat, reduceIte, Int.reduceLE, Int.reduceNeg]; rfl) ?_
                                (repeat (first | refine W.seq ?_ | refine W.block ?_ | refine W.skip ?_ | refine W.exit ?_))
                                refine ⟨(by first | rfl | trivial), ?_⟩
                                refine le_mk ?sle ?mle ?swf ?mwf (kept_not hkeep) (by rfl)
                                case swf =>
                                  repeat (first | exact swf_top _ | refine swf_upd ?_ (by simp [A.ids, upd_app, lo1, lo5, lo44, lo10, XU_1, XU_5, XU_44, XU_10, setsM_isSome_s (show code.length + rg + 1 < code.length + rg + 2 by omega)]))
                                case mwf => exact XU_wf hb1i (by omega)
                                case mle => exact mle_refl' rfl
                                case sle => repeat (first | exact sle_top _ | exact sle_refl _ | refine sle_upd ?_ (by first | rfl | (simp only [upd_app, killS_app, A.kill, entry_zero, entry_succ, Nat.reduceEqDiff, reduceIte, el50, Bool.false_eq_true]; done)))
                        · rintro e st' ⟨rfl, hle⟩
                          refine W.weaken hle ?_
                          (repeat (first | refine W.seq ?_ | refine W.block ?_ | refine W.skip ?_ | refine W.exit ?_))
                          refine W.regionK tab_ok 0 (by decide) ?_
                          refine runk_split 2 (by simp only [exa, beq_self_eq_true, ByteArray.size, Nat.reduceAdd, Nat.reduceLeDiff, Nat.reduceEqDiff, Nat.reduceMul, Int.reduceToNat, reduceIte, Int.reduceLE, Int.reduceNeg, lo1, hx1w, hcp, List.map_cons, List.map_nil]; rfl) ?_
                          refine runk_call rfl rfl rfl rfl rfl (by simp) (cvs_cons cv_refl (cvs_cons cv_refl cvs_nil)) (hnx i (by omega) _) ?_
                          refine runk_exec (by simp only [exa, beq_self_eq_true, ByteArray.size, Nat.reduceAdd, Nat.reduceLeDiff, Nat.reduceEqDiff, Nat.reduceMul, Int.reduceToNat, reduceIte, Int.reduceLE, Int.reduceNeg, List.length_map]; rfl) ?_
                          (repeat (first | refine W.seq ?_ | refine W.block ?_ | refine W.skip ?_ | refine W.exit ?_))
                          refine W.loop (ι := Nat × (Nat → Nat → Bool) × List Nat) (fun y => ⟨upd (upd (upd (upd (upd (upd (upd (upd (upd (upd (upd (fun _ => .top) 1 (.ptr 1 0)) 4 (.c (.int .i64 code.length))) 5 (.ptr 5 0)) 7 (.map 44)) 10 (.ptr 10 0)) 12 (.fn 20 [5, 10])) 15 (.c (.int .i64 i))) 16 (.ptr (sN (code.length + rg + 1)) 0)) 150 (.c (.sl ((nx code i).map cZ)))) 151 (.c (.int .i64 (nx code i).length))) 152 (.c (.int .i64 y.1)), setsM (code.length + rg + 1 + 1) N (setF (FE code rg y.2.1) (code.length + rg + 1) (outD code rg In i)) (XU b1 rg code.length y.2.2)⟩) (fun y => y.1 ≤ (nx code i).length ∧ UMid code rg In ws i ((nxN code i).take y.1) y.2.1 y.2.2) (fun y => (nx code i).length - y.1) (0, In, ws) ?startG ⟨Nat.zero_le _, UMid.start hinv⟩ ?roundG
                          case startG =>
                            refine le_mk ?sle ?mle ?swf ?mwf (kept_not hkeep) (by rfl)
                            case swf =>
                              repeat (first | exact swf_top _ | refine swf_upd ?_ (by simp [A.ids, upd_app, lo1, lo5, lo44, lo10, XU_1, XU_5, XU_44, XU_10, setsM_isSome_s (show code.length + rg + 1 < code.length + rg + 2 by omega)]))
                            case mwf => exact XU_wf hb1i (by omega)
                            case mle => exact mle_refl' rfl
                            case sle => repeat (first | exact sle_top _ | exact sle_refl _ | refine sle_upd ?_ (by first | rfl | (simp only [upd_app, killS_app, A.kill, entry_zero, entry_succ, Nat.reduceEqDiff, reduceIte, el50, Bool.false_eq_true]; done)))
                          case roundG =>
                            rintro ⟨q, In', ws'⟩ ⟨hq, hmid⟩
                            simp only at hq hmid
                            repeat (first | refine W.seq ?_ | refine W.block ?_ | refine W.skip ?_ | refine W.exit ?_ | refine W.region tab_ok 0 (by decide) (exec_run (by simp only [exa, beq_self_eq_true, ByteArray.size, Nat.reduceAdd, Nat.reduceLeDiff, Nat.reduceEqDiff, Nat.reduceMul, Int.reduceToNat, reduceIte, Int.reduceLE, Int.reduceNeg]; rfl)) ?_)
                            refine W.cond rfl ?_ ?_
                            · intro hlt
                              simp only [decide_eq_true_eq, Int.ofNat_lt] at hlt
                              obtain ⟨z, hz⟩ : ∃ z, (nx code i)[q]? = some z := ⟨_, List.getElem?_eq_getElem hlt⟩
                              have hnl := nx_len code i
                              have hs50 : (sN (code.length + rg + 1) = 50) = False := eq_false (by unfold sN; omega)
                              have hzb := okD_nx hok' hi (List.mem_of_getElem? hz)
                              obtain ⟨k, rfl⟩ := Int.eq_ofNat_of_zero_le hzb.1
                              have hkn : k < code.length := by omega
                              have hzN : (nxN code i)[q]? = some k := by unfold nxN; rw [List.getElem?_map, hz]; rfl
                              have hmid' := hmid.next hok' hinv (List.mem_of_getElem? hzN) hkn
                              have htk : (nxN code i).take (q + 1) = (nxN code i).take q ++ [k] := by rw [List.take_add_one, hzN]; rfl
                              rw [← htk, ← hN] at hmid'
                              have hwl : ws'.length ≤ 1000000000 := by
                                have := hmid.pot
                                rw [← hN] at this
                                simp only [List.length_cons] at hbd
                                omega
                              have hfl2 := flow_ok b1 hb1i rg code.length (code.length + rg + 1 + 1) (setF (FE code rg In') (code.length + rg + 1) (outD code rg In i)) ws' (by omega) (by omega) hwl (code.length + rg + 1) k hkn (by omega) (by omega) (fun d hd => by rw [setF_self] at hd; have := houtN d hd; omega)
                              rw [← hN, setF_self, setF_other (show k ≠ code.length + rg + 1 by omega), FE_in hkn] at hfl2
                              (repeat (first | refine W.seq ?_ | refine W.block ?_ | refine W.skip ?_ | refine W.exit ?_))
                              refine W.region tab_ok 0 (by decide) (exec_run (by simp only [exa, beq_self_eq_true, ByteArray.size, Nat.reduceAdd, Nat.reduceLeDiff, Nat.reduceEqDiff, Nat.reduceMul, Int.reduceToNat, reduceIte, Int.reduceLE, Int.reduceNeg, at_map hz, cZ]; rfl)) ?_
                              (repeat (first | refine W.seq ?_ | refine W.block ?_ | refine W.skip ?_ | refine W.exit ?_))
                              refine W.regionK tab_ok 0 (by decide) ?_
                              refine runk_split 3 (by simp only [exa, beq_self_eq_true, ByteArray.size, Nat.reduceAdd, Nat.reduceLeDiff, Nat.reduceEqDiff, Nat.reduceMul, Int.reduceToNat, reduceIte, Int.reduceLE, Int.reduceNeg]; rfl) ?_
                              refine runk_callE (D := [50]) rfl rfl rfl rfl rfl (fun j hj => nokeep hkeep) (fun j hj => by simp at hj; rcases hj with rfl | rfl; exact ⟨_, _, (lo5 _ _ _).trans XU_5⟩; exact ⟨_, _, (lo10 _ _ _).trans XU_10⟩) (cvs_cons cv_refl (cvs_cons cv_refl (cvs_cons cv_refl (cvs_cons cv_refl cvs_nil)))) hfl2 ?_
                              simp only [killL, putS, upd_upd]
                              refine runk_exec (by simp only [exa, beq_self_eq_true, ByteArray.size, Nat.reduceAdd, Nat.reduceLeDiff, Nat.reduceEqDiff, Nat.reduceMul, Int.reduceToNat, reduceIte, Int.reduceLE, Int.reduceNeg]; rfl) ?_
                              repeat (first | refine W.seq ?_ | refine W.block ?_ | refine W.skip ?_ | refine W.exit ?_ | refine W.region tab_ok 0 (by decide) (exec_run (by simp only [exa, beq_self_eq_true, ByteArray.size, Nat.reduceAdd, Nat.reduceLeDiff, Nat.reduceEqDiff, Nat.reduceMul, Int.reduceToNat, reduceIte, Int.reduceLE, Int.reduceNeg]; rfl)) ?_)
                              refine ⟨(q + 1, setF In' k (orF (In' k) (outD code rg In i)), if chgB (In' k) (orF (In' k) (outD code rg In i)) (nw N) = true then ws' ++ [k] else ws'), ⟨hlt, hmid'⟩, by simp only; omega, ?_⟩
                              refine le_mk ?sle ?mle ?swf ?mwf (kept_not hkeep) (by rfl)
                              case swf =>
                                repeat (first | exact swf_top _ | refine swf_upd ?_ (by simp [A.ids, upd_app, lo1, lo5, lo44, lo10, XU_1, XU_5, XU_44, XU_10, setsM_isSome_s (show code.length + rg + 1 < code.length + rg + 2 by omega)]))
                              case mwf => exact XU_wf hb1i (by omega)
                              case mle =>
                                refine mle_refl' (setsM_congr fun j hj => ?_)
                                by_cases ej : j = code.length + rg + 1
                                · subst ej
                                  rw [setF_self, setF_other (by omega), setF_self]
                                · rw [setF_other ej]
                                  by_cases ek : j = k
                                  · subst ek
                                    rw [setF_self, FE_in hkn]; simp only; rw [setF_self]
                                  · rw [setF_other ek, setF_other ej]
                                    by_cases hjn : j < code.length
                                    · rw [FE_in hjn, FE_in hjn]; simp only; rw [setF_other ek]
                                    · unfold FE; rw [if_neg hjn, if_neg hjn]
                              case sle => repeat (first | exact sle_top _ | exact sle_refl _ | refine sle_upd ?_ (by first | rfl | (simp only [upd_app, killS_app, A.kill, entry_zero, entry_succ, Nat.reduceEqDiff, reduceIte, el50, Bool.false_eq_true, hs50, wrap_succ (show q + 1 < 9223372036854775808 by omega)]; done)))
                            · intro hge
                              simp only [decide_eq_false_iff_not, Int.ofNat_lt] at hge
                              have hql : q = (nxN code i).length := by unfold nxN; rw [List.length_map]; omega
                              rw [hql, List.take_length] at hmid
                              have hpot := hmid.pot
                              rw [← hN] at hpot
                              repeat (first | refine W.seq ?_ | refine W.block ?_ | refine W.skip ?_ | refine W.exit ?_ | refine W.region tab_ok 0 (by decide) (exec_run (by simp only [exa, beq_self_eq_true, ByteArray.size, Nat.reduceAdd, Nat.reduceLeDiff, Nat.reduceEqDiff, Nat.reduceMul, Int.reduceToNat, reduceIte, Int.reduceLE, Int.reduceNeg]; rfl)) ?_)
                              refine ⟨(In', ws'), ⟨hmid.finish hinv, ?_⟩, ?_, ?_⟩
                              · simp only [List.length_cons] at hbd ⊢
                                omega
                              · simp only [List.length_cons]
                                omega
                              refine le_mk ?sle ?mle ?swf ?mwf (kept_not hkeep) (by rfl)
                              case swf =>
                                repeat (first | exact swf_top _ | refine swf_upd ?_ (by simp [A.ids, upd_app, lo1, lo5, lo44, lo10, XU_1, XU_5, XU_44, XU_10, setsM_isSome_s (show code.length + rg + 1 < code.length + rg + 2 by omega)]))
                              case mwf => exact XU_wf hb1i (by omega)
                              case mle =>
                                rw [← setsM_congr (K := code.length + rg + 1) (F := setF (FE code rg In') (code.length + rg + 1) (outD code rg In i)) (F' := FE code rg In') (fun j hj => setF_other (by omega))]
                                exact setsM_drop (farU _)
                              case sle => repeat (first | exact sle_top _ | exact sle_refl _ | refine sle_upd ?_ (by first | rfl | (simp only [upd_app, killS_app, A.kill, entry_zero, entry_succ, Nat.reduceEqDiff, reduceIte, el50, Bool.false_eq_true]; done)))
end V
end Go.Proofs.YtcldeoolglhdoaaDoor
end
section
set_option linter.unusedVariables false
set_option linter.unusedSimpArgs false
namespace Go.Proofs.YtcldeoolglhdoaaDoor
namespace V
open Go.RowKit G
theorem sameEdges_ok (a b : List (Int × Int)) (ha : a.length ≤ 1000000000000) (m : Mem) : COk Tryd.prog 10 [.c (.sl (a.map cE)), .c (.sl (b.map cE))] m (.c (.bool (decide (a = b)))) := by
  refine (ok_pure tab_ok Tryd.func10 (by kernel_rfl) rfl rfl (by rfl) (by rfl) (by rfl) (fun R hkeep => ?_) m)
  by_cases hne : a.length = b.length
  · repeat (first | refine W.seq ?_ | refine W.block ?_ | refine W.skip ?_ | refine W.exit ?_ | refine W.region tab_ok 0 (by decide) (exec_run (by simp only [exa, beq_self_eq_true, ByteArray.size, Nat.reduceAdd, Nat.reduceLeDiff, Nat.reduceEqDiff, Nat.reduceMul, Int.reduceToNat, reduceIte, Int.reduceLE, Int.reduceNeg, hne]; rfl)) ?_)
    refine W.cond rfl ?_ ?_
    · intro h; simp at h
    · intro _
      repeat (first | refine W.seq ?_ | refine W.block ?_ | refine W.skip ?_ | refine W.exit ?_ | refine W.region tab_ok 0 (by decide) (exec_run (by simp only [exa, beq_self_eq_true, ByteArray.size, Nat.reduceAdd, Nat.reduceLeDiff, Nat.reduceEqDiff, Nat.reduceMul, Int.reduceToNat, reduceIte, Int.reduceLE, Int.reduceNeg, hne]; rfl)) ?_)
      refine W.loop (ι := Nat) (fun k => ⟨upd (upd (upd (upd (upd (fun _ => .top) 0 (.c (.sl (a.map cE)))) 1 (.c (.sl (b.map cE)))) 4 (.c (.bool false))) 12 (.c (.int .i64 b.length))) 13 (.c (.int .i64 k)), Mem.nil⟩) (fun k => k ≤ b.length ∧ a.take k = b.take k) (fun k => b.length - k) 0 ?start ⟨Nat.zero_le _, rfl⟩ ?round
      case start =>
        refine le_mk ?sle ?mle ?swf ?mwf ?kept (by rfl)
        case kept => exact kept_not hkeep
        case swf => repeat (first | exact swf_top _ | refine swf_upd ?_ (by simp [A.ids, upd_app]))
        case mwf => repeat (first | exact mwf_nil _ | refine mwf_upd ?_ (by simp [A.ids, O.ids, upd_app]))
        case mle => repeat (first | exact mle_nil _ | exact mle_refl _ | refine mle_upd ?_ (by first | rfl | (simp only [upd_app, killM_app, Nat.reduceEqDiff, reduceIte]; done)))
        case sle => repeat (first | exact sle_top _ | exact sle_refl _ | refine sle_upd ?_ (by first | rfl | (simp only [upd_app, entry_zero, entry_succ, Nat.reduceEqDiff, reduceIte]; done)))
      case round =>
        rintro k ⟨hkl, hin⟩
        repeat (first | refine W.seq ?_ | refine W.block ?_ | refine W.skip ?_ | refine W.exit ?_ | refine W.region tab_ok 0 (by decide) (exec_run (by simp only [exa, beq_self_eq_true, ByteArray.size, Nat.reduceAdd, Nat.reduceLeDiff, Nat.reduceEqDiff, Nat.reduceMul, Int.reduceToNat, reduceIte, Int.reduceLE, Int.reduceNeg]; rfl)) ?_)
        refine W.cond rfl ?_ ?_
        · intro hlt
          simp only [decide_eq_true_eq, Int.ofNat_lt] at hlt
          obtain ⟨x, hx⟩ : ∃ x, a[k]? = some x := ⟨_, List.getElem?_eq_getElem (by omega)⟩
          obtain ⟨y, hy⟩ : ∃ y, b[k]? = some y := ⟨_, List.getElem?_eq_getElem (by omega)⟩
          repeat (first | refine W.seq ?_ | refine W.block ?_ | refine W.skip ?_ | refine W.exit ?_ | refine W.region tab_ok 0 (by decide) (exec_run (by simp only [exa, beq_self_eq_true, ByteArray.size, Nat.reduceAdd, Nat.reduceLeDiff, Nat.reduceEqDiff, Nat.reduceMul, Int.reduceToNat, reduceIte, Int.reduceLE, Int.reduceNeg]; rfl)) ?_)
          refine W.regionDK tab_ok 0 follows_mixed (by kernel_rfl) (by decide) ?_
          refine runk_exec (by simp only [exa, beq_self_eq_true, ByteArray.size, Nat.reduceAdd, Nat.reduceLeDiff, Nat.reduceEqDiff, Nat.reduceMul, Int.reduceToNat, reduceIte, Int.reduceLE, Int.reduceNeg, at_map hx, at_map hy, cE]; rfl) ?_
          refine W.cond rfl ?_ ?_
          · intro hp
            repeat (first | refine W.seq ?_ | refine W.block ?_ | refine W.skip ?_ | refine W.exit ?_ | refine W.region tab_ok 0 (by decide) (exec_run (by simp only [exa, beq_self_eq_true, ByteArray.size, Nat.reduceAdd, Nat.reduceLeDiff, Nat.reduceEqDiff, Nat.reduceMul, Int.reduceToNat, reduceIte, Int.reduceLE, Int.reduceNeg]; rfl)) ?_)
            refine W.ret ⟨.inr rfl, by rfl, ?_⟩
            simp only [Tryd.f10, resA, resOne, toT, fin, exa, beq_self_eq_true, ByteArray.size, Nat.reduceAdd, Nat.reduceLeDiff, Nat.reduceEqDiff, Nat.reduceMul, Int.reduceToNat, reduceIte, Int.reduceLE, Int.reduceNeg]
            have hxy : x ≠ y := (fun e => by subst e; simp at hp)
            have : a ≠ b := fun e => by subst e; rw [hx] at hy; exact hxy (Option.some.inj hy)
            simp [this]
          · intro hp
            repeat (first | refine W.seq ?_ | refine W.block ?_ | refine W.skip ?_ | refine W.exit ?_ | refine W.region tab_ok 0 (by decide) (exec_run (by simp only [exa, beq_self_eq_true, ByteArray.size, Nat.reduceAdd, Nat.reduceLeDiff, Nat.reduceEqDiff, Nat.reduceMul, Int.reduceToNat, reduceIte, Int.reduceLE, Int.reduceNeg]; rfl)) ?_)
            refine ⟨k + 1, ⟨hlt, ?_⟩, by omega, ?_⟩
            · have hxy : x = y := Decidable.byContradiction fun q => by
                have : x ≠ y := q
                simp [cE, this] at hp
                try (obtain ⟨x1, x2⟩ := x; obtain ⟨y1, y2⟩ := y; simp at hp; simp [hp] at this)
              rw [List.take_add_one, List.take_add_one, hx, hy, hin, hxy]
            refine le_mk ?sle ?mle ?swf ?mwf ?kept (by rfl)
            case kept => exact kept_not hkeep
            case swf => repeat (first | exact swf_top _ | refine swf_upd ?_ (by simp [A.ids, upd_app]))
            case mwf => repeat (first | exact mwf_nil _ | refine mwf_upd ?_ (by simp [A.ids, O.ids, upd_app]))
            case mle => repeat (first | exact mle_nil _ | exact mle_refl _ | refine mle_upd ?_ (by first | rfl | (simp only [upd_app, killM_app, Nat.reduceEqDiff, reduceIte, wrap_succ (show k + 1 < 9223372036854775808 by omega)]; done)))
            case sle => repeat (first | exact sle_top _ | exact sle_refl _ | refine sle_upd ?_ (by first | rfl | (simp only [upd_app, entry_zero, entry_succ, Nat.reduceEqDiff, reduceIte, wrap_succ (show k + 1 < 9223372036854775808 by omega)]; done)))
        · intro hge
          simp only [decide_eq_false_iff_not, Int.ofNat_lt] at hge
          obtain rfl : k = b.length := by omega
          rw [List.take_of_length_le (by omega), List.take_length] at hin
          repeat (first | refine W.seq ?_ | refine W.block ?_ | refine W.skip ?_ | refine W.exit ?_ | refine W.region tab_ok 0 (by decide) (exec_run (by simp only [exa, beq_self_eq_true, ByteArray.size, Nat.reduceAdd, Nat.reduceLeDiff, Nat.reduceEqDiff, Nat.reduceMul, Int.reduceToNat, reduceIte, Int.reduceLE, Int.reduceNeg]; rfl)) ?_)
          refine W.ret ⟨.inr rfl, by rfl, ?_⟩
          simp only [Tryd.f10, resA, resOne, toT, fin, exa, beq_self_eq_true, ByteArray.size, Nat.reduceAdd, Nat.reduceLeDiff, Nat.reduceEqDiff, Nat.reduceMul, Int.reduceToNat, reduceIte, Int.reduceLE, Int.reduceNeg]
          simp [hin]
  · repeat (first | refine W.seq ?_ | refine W.block ?_ | refine W.skip ?_ | refine W.exit ?_ | refine W.region tab_ok 0 (by decide) (exec_run (by simp only [exa, beq_self_eq_true, ByteArray.size, Nat.reduceAdd, Nat.reduceLeDiff, Nat.reduceEqDiff, Nat.reduceMul, Int.reduceToNat, reduceIte, Int.reduceLE, Int.reduceNeg]; rfl)) ?_)
    refine W.cond rfl ?_ ?_
    · intro _
      repeat (first | refine W.seq ?_ | refine W.block ?_ | refine W.skip ?_ | refine W.exit ?_ | refine W.region tab_ok 0 (by decide) (exec_run (by simp only [exa, beq_self_eq_true, ByteArray.size, Nat.reduceAdd, Nat.reduceLeDiff, Nat.reduceEqDiff, Nat.reduceMul, Int.reduceToNat, reduceIte, Int.reduceLE, Int.reduceNeg]; rfl)) ?_)
      refine W.ret ⟨.inr rfl, by rfl, ?_⟩
      simp only [Tryd.f10, resA, resOne, toT, fin, exa, beq_self_eq_true, ByteArray.size, Nat.reduceAdd, Nat.reduceLeDiff, Nat.reduceEqDiff, Nat.reduceMul, Int.reduceToNat, reduceIte, Int.reduceLE, Int.reduceNeg]
      have : a ≠ b := fun e => by subst e; exact hne rfl
      simp [this]
    · intro h
      exfalso
      simp at h
      omega
end V
end Go.Proofs.YtcldeoolglhdoaaDoor
end
section
set_option linter.unusedVariables false
set_option linter.unusedSimpArgs false
namespace Go.Proofs.YtcldeoolglhdoaaDoor
namespace V
open Go.RowKit G C17 D18
theorem example_ok (m : Mem) : COk Tryd.prog 16 [] m (.agg (cP exP)) := by
  refine (ok_pure tab_ok Tryd.func16 (by kernel_rfl) rfl rfl (by rfl) (by rfl) (by rfl) (fun R hkeep => ?_) m)
  repeat (first | refine W.seq ?_ | refine W.block ?_ | refine W.skip ?_ | refine W.exit ?_ | refine W.region tab_ok 0 (by decide) (exec_run (by simp only [exa, beq_self_eq_true, ByteArray.size, Nat.reduceAdd, Nat.reduceLeDiff, Nat.reduceEqDiff, Nat.reduceMul, Int.reduceToNat, reduceIte, Int.reduceLE, Int.reduceNeg, Int.cast_ofNat_Int]; rfl)) ?_)
  refine W.ret ⟨.inr rfl, by rfl, ?_⟩
  simp only [Tryd.f16, resA, resOne, toT, fin, exa, beq_self_eq_true, ByteArray.size, Nat.reduceAdd, Nat.reduceLeDiff, Nat.reduceEqDiff, Nat.reduceMul, Int.reduceToNat, reduceIte, Int.reduceLE, Int.reduceNeg]
  rfl
theorem live_ok (m : Mem) : COk Tryd.prog 7 [] m (.c (.bool true)) := by
  have hu := fun m => usesP_ok exP (by decide) (by decide) m
  have hs := fun m => sameEdges_ok [(-1, 1), (-1, 2), (0, 3), (2, 3)] [(-1, 1), (-1, 2), (0, 3), (2, 3)] (by decide) m
  rw [decide_eq_true rfl] at hs
  simp only [ex_uses] at hu
  have h2 : ∀ m, COk Tryd.prog 11 [.agg (cP exP), .c (.int .i64 2)] m (.c (.int .i64 1)) := fun m => of_ok18 exP 2 (by decide) m
  have h3 : ∀ m, COk Tryd.prog 11 [.agg (cP exP), .c (.int .i64 (-2))] m (.c (.int .i64 1)) := fun m => of_ok18 exP (-2) (by decide) m
  refine (ok_pure tab_ok Tryd.func7 (by kernel_rfl) rfl rfl (by rfl) (by rfl) (by rfl) (fun R hkeep => ?_) m)
  repeat (first | refine W.seq ?_ | refine W.block ?_ | refine W.skip ?_ | refine W.exit ?_ | refine W.region tab_ok 0 (by decide) (exec_run (by simp only [exa, beq_self_eq_true, ByteArray.size, Nat.reduceAdd, Nat.reduceLeDiff, Nat.reduceEqDiff, Nat.reduceMul, Int.reduceToNat, reduceIte, Int.reduceLE, Int.reduceNeg]; rfl)) ?_)
  refine W.regionK tab_ok 0 (by decide) ?_
  refine runk_split 0 (by simp only [exa, beq_self_eq_true, ByteArray.size, Nat.reduceAdd, Nat.reduceLeDiff, Nat.reduceEqDiff, Nat.reduceMul, Int.reduceToNat, reduceIte, Int.reduceLE, Int.reduceNeg]; rfl) ?_
  refine runk_call rfl rfl rfl rfl rfl (by simp) cvs_nil (example_ok _) ?_
  refine runk_split 0 (by simp only [exa, beq_self_eq_true, ByteArray.size, Nat.reduceAdd, Nat.reduceLeDiff, Nat.reduceEqDiff, Nat.reduceMul, Int.reduceToNat, reduceIte, Int.reduceLE, Int.reduceNeg]; rfl) ?_
  refine runk_call rfl rfl rfl rfl rfl (by simp) (cvs_cons cv_refl cvs_nil) (hu _) ?_
  refine runk_exec (by simp only [exa, beq_self_eq_true, ByteArray.size, Nat.reduceAdd, Nat.reduceLeDiff, Nat.reduceEqDiff, Nat.reduceMul, Int.reduceToNat, reduceIte, Int.reduceLE, Int.reduceNeg]; rfl) ?_
  (repeat (first | refine W.seq ?_ | refine W.block ?_ | refine W.skip ?_ | refine W.exit ?_))
  refine W.regionK tab_ok 0 (by decide) ?_
  refine runk_split 9 (by simp only [exa, beq_self_eq_true, ByteArray.size, Nat.reduceAdd, Nat.reduceLeDiff, Nat.reduceEqDiff, Nat.reduceMul, Int.reduceToNat, reduceIte, Int.reduceLE, Int.reduceNeg, eq_self]; rfl) ?_
  refine runk_call rfl rfl rfl rfl rfl (by simp) (cvs_cons cv_refl (cvs_cons cv_refl cvs_nil)) (hs _) ?_
  refine runk_split 2 (by simp only [exa, beq_self_eq_true, ByteArray.size, Nat.reduceAdd, Nat.reduceLeDiff, Nat.reduceEqDiff, Nat.reduceMul, Int.reduceToNat, reduceIte, Int.reduceLE, Int.reduceNeg, eq_self]; rfl) ?_
  refine runk_call rfl rfl rfl rfl rfl (by simp) cvs_nil (example_ok _) ?_
  refine runk_split 0 (by simp only [exa, beq_self_eq_true, ByteArray.size, Nat.reduceAdd, Nat.reduceLeDiff, Nat.reduceEqDiff, Nat.reduceMul, Int.reduceToNat, reduceIte, Int.reduceLE, Int.reduceNeg, eq_self]; rfl) ?_
  refine runk_call rfl rfl rfl rfl rfl (by simp) (cvs_cons cv_refl (cvs_cons cv_refl cvs_nil)) (h2 _) ?_
  refine runk_split 3 (by simp only [exa, beq_self_eq_true, ByteArray.size, Nat.reduceAdd, Nat.reduceLeDiff, Nat.reduceEqDiff, Nat.reduceMul, Int.reduceToNat, reduceIte, Int.reduceLE, Int.reduceNeg, eq_self]; rfl) ?_
  refine runk_call rfl rfl rfl rfl rfl (by simp) cvs_nil (example_ok _) ?_
  refine runk_split 0 (by simp only [exa, beq_self_eq_true, ByteArray.size, Nat.reduceAdd, Nat.reduceLeDiff, Nat.reduceEqDiff, Nat.reduceMul, Int.reduceToNat, reduceIte, Int.reduceLE, Int.reduceNeg, eq_self]; rfl) ?_
  refine runk_call rfl rfl rfl rfl rfl (by simp) (cvs_cons cv_refl (cvs_cons cv_refl cvs_nil)) (h3 _) ?_
  refine runk_exec (by simp only [exa, beq_self_eq_true, ByteArray.size, Nat.reduceAdd, Nat.reduceLeDiff, Nat.reduceEqDiff, Nat.reduceMul, Int.reduceToNat, reduceIte, Int.reduceLE, Int.reduceNeg, eq_self]; rfl) ?_
  repeat (first | refine W.seq ?_ | refine W.block ?_ | refine W.skip ?_ | refine W.exit ?_ | refine W.region tab_ok 0 (by decide) (exec_run (by simp only [exa, beq_self_eq_true, ByteArray.size, Nat.reduceAdd, Nat.reduceLeDiff, Nat.reduceEqDiff, Nat.reduceMul, Int.reduceToNat, reduceIte, Int.reduceLE, Int.reduceNeg]; rfl)) ?_)
  refine W.ret ⟨.inr rfl, by rfl, ?_⟩
  simp only [Tryd.f7, resA, resOne, toT, fin, exa, beq_self_eq_true, ByteArray.size, Nat.reduceAdd, Nat.reduceLeDiff, Nat.reduceEqDiff, Nat.reduceMul, Int.reduceToNat, reduceIte, Int.reduceLE, Int.reduceNeg]
theorem eqTF (c : Prop) : c = True ∨ c = False := by
  by_cases h : c
  · exact .inl (eq_true h)
  · exact .inr (eq_false h)
set_option maxHeartbeats 4000000 in
theorem lawUses_ok (p : Prc) (hpl : p.code.length ≤ 1000000000000000) (hsum : (p.code.map fun x => x.args.length).sum ≤ 1048576) (m : Mem) : COk Tryd.prog 3 [.agg (cP p)] m (.c (.bool true)) := by
  obtain ⟨L, e, hL, hlen⟩ := uses_shape p
  have h1 := fun m => usesP_ok p hpl hsum m
  have h2 := fun m => refUsesP_ok p hpl (fun x hx => by have := args_le hx; omega) m
  rw [hL] at h1 h2
  have h3 := fun m => sameEdges_ok L L (by omega) m
  rw [decide_eq_true rfl] at h3
  obtain ⟨cls, name, params, regs, code⟩ := p
  have hcp : cP ⟨cls, name, params, regs, code⟩ = [.str cls, .str name, .int .i64 params, .int .i64 regs, .sl (code.map cIns)] := rfl
  refine (ok_pure tab_ok Tryd.func3 (by kernel_rfl) rfl rfl (by rfl) (by rfl) (by rfl) (fun R hkeep => ?_) m)
  (repeat (first | refine W.seq ?_ | refine W.block ?_ | refine W.skip ?_ | refine W.exit ?_))
  refine W.region tab_ok 0 (by decide) (exec_run (by simp only [exa, beq_self_eq_true, ByteArray.size, Nat.reduceAdd, Nat.reduceLeDiff, Nat.reduceEqDiff, Nat.reduceMul, Int.reduceToNat, reduceIte, Int.reduceLE, Int.reduceNeg, hcp, List.map_cons, List.map_nil]; rfl)) ?_
  (repeat (first | refine W.seq ?_ | refine W.block ?_ | refine W.skip ?_ | refine W.exit ?_))
  refine W.regionK tab_ok 0 (by decide) ?_
  refine runk_split 0 (by simp only [exa, beq_self_eq_true, ByteArray.size, Nat.reduceAdd, Nat.reduceLeDiff, Nat.reduceEqDiff, Nat.reduceMul, Int.reduceToNat, reduceIte, Int.reduceLE, Int.reduceNeg]; rfl) ?_
  refine runk_call rfl rfl rfl rfl rfl (by simp) cvs_nil (live_ok _) ?_
  refine runk_exec (by simp only [exa, beq_self_eq_true, ByteArray.size, Nat.reduceAdd, Nat.reduceLeDiff, Nat.reduceEqDiff, Nat.reduceMul, Int.reduceToNat, reduceIte, Int.reduceLE, Int.reduceNeg]; rfl) ?_
  rcases eqTF ((150 : Int) < (code.length : Int)) with hA | hA <;> rcases eqTF ((100 : Int) < regs) with hB | hB <;> rcases eqTF ((code.length : Int) ≤ 2000) with hC | hC <;> rcases eqTF (regs ≤ 10000) with hD | hD
  all_goals
    repeat (first | refine W.seq ?_ | refine W.block ?_ | refine W.skip ?_ | refine W.exit ?_ | refine W.region tab_ok 0 (by decide) (exec_run (by simp only [exa, beq_self_eq_true, ByteArray.size, Nat.reduceAdd, Nat.reduceLeDiff, Nat.reduceEqDiff, Nat.reduceMul, Int.reduceToNat, reduceIte, Int.reduceLE, Int.reduceNeg, List.length_map, hA, hB, hC, hD, decide_true, decide_false]; rfl)) ?_)
    first
    | refine W.cond (b := true) rfl (fun _ => ?_) (fun h => absurd h (by simp))
      repeat (first | refine W.seq ?_ | refine W.block ?_ | refine W.skip ?_ | refine W.exit ?_ | refine W.region tab_ok 0 (by decide) (exec_run (by simp only [exa, beq_self_eq_true, ByteArray.size, Nat.reduceAdd, Nat.reduceLeDiff, Nat.reduceEqDiff, Nat.reduceMul, Int.reduceToNat, reduceIte, Int.reduceLE, Int.reduceNeg]; rfl)) ?_)
      refine W.ret ⟨.inr rfl, by rfl, ?_⟩
      simp only [Tryd.f3, resA, resOne, toT, fin, exa, beq_self_eq_true, ByteArray.size, Nat.reduceAdd, Nat.reduceLeDiff, Nat.reduceEqDiff, Nat.reduceMul, Int.reduceToNat, reduceIte, Int.reduceLE, Int.reduceNeg]
      done
    | refine W.cond (b := false) rfl (fun h => absurd h (by simp)) (fun _ => ?_)
      (repeat (first | refine W.seq ?_ | refine W.block ?_ | refine W.skip ?_ | refine W.exit ?_))
      refine W.regionK tab_ok 0 (by decide) ?_
      refine runk_split 1 (by simp only [exa, beq_self_eq_true, ByteArray.size, Nat.reduceAdd, Nat.reduceLeDiff, Nat.reduceEqDiff, Nat.reduceMul, Int.reduceToNat, reduceIte, Int.reduceLE, Int.reduceNeg, hcp, List.map_cons, List.map_nil]; rfl) ?_
      refine runk_call rfl rfl rfl rfl rfl (by simp) (cvs_cons cv_refl cvs_nil) (h1 _) ?_
      refine runk_exec (by simp only [exa, beq_self_eq_true, ByteArray.size, Nat.reduceAdd, Nat.reduceLeDiff, Nat.reduceEqDiff, Nat.reduceMul, Int.reduceToNat, reduceIte, Int.reduceLE, Int.reduceNeg]; rfl) ?_
      (repeat (first | refine W.seq ?_ | refine W.block ?_ | refine W.skip ?_ | refine W.exit ?_))
      refine W.regionK tab_ok 0 (by decide) ?_
      refine runk_split 1 (by simp only [exa, beq_self_eq_true, ByteArray.size, Nat.reduceAdd, Nat.reduceLeDiff, Nat.reduceEqDiff, Nat.reduceMul, Int.reduceToNat, reduceIte, Int.reduceLE, Int.reduceNeg, hcp, List.map_cons, List.map_nil]; rfl) ?_
      refine runk_call rfl rfl rfl rfl rfl (by simp) (cvs_cons cv_refl cvs_nil) (h2 _) ?_
      refine runk_exec (by simp only [exa, beq_self_eq_true, ByteArray.size, Nat.reduceAdd, Nat.reduceLeDiff, Nat.reduceEqDiff, Nat.reduceMul, Int.reduceToNat, reduceIte, Int.reduceLE, Int.reduceNeg]; rfl) ?_
      (repeat (first | refine W.seq ?_ | refine W.block ?_ | refine W.skip ?_ | refine W.exit ?_))
      refine W.regionK tab_ok 0 (by decide) ?_
      refine runk_split 4 (by simp only [exa, beq_self_eq_true, ByteArray.size, Nat.reduceAdd, Nat.reduceLeDiff, Nat.reduceEqDiff, Nat.reduceMul, Int.reduceToNat, reduceIte, Int.reduceLE, Int.reduceNeg]; rfl) ?_
      refine runk_call rfl rfl rfl rfl rfl (by simp) (cvs_cons cv_refl (cvs_cons cv_refl cvs_nil)) (h3 _) ?_
      refine runk_exec (by simp only [exa, beq_self_eq_true, ByteArray.size, Nat.reduceAdd, Nat.reduceLeDiff, Nat.reduceEqDiff, Nat.reduceMul, Int.reduceToNat, reduceIte, Int.reduceLE, Int.reduceNeg, eq_self, decide_true]; rfl) ?_
      repeat (first | refine W.seq ?_ | refine W.block ?_ | refine W.skip ?_ | refine W.exit ?_ | refine W.region tab_ok 0 (by decide) (exec_run (by simp only [exa, beq_self_eq_true, ByteArray.size, Nat.reduceAdd, Nat.reduceLeDiff, Nat.reduceEqDiff, Nat.reduceMul, Int.reduceToNat, reduceIte, Int.reduceLE, Int.reduceNeg]; rfl)) ?_)
      refine W.ret ⟨.inr rfl, by rfl, ?_⟩
      simp only [Tryd.f3, resA, resOne, toT, fin, exa, beq_self_eq_true, ByteArray.size, Nat.reduceAdd, Nat.reduceLeDiff, Nat.reduceEqDiff, Nat.reduceMul, Int.reduceToNat, reduceIte, Int.reduceLE, Int.reduceNeg]
      done
theorem lawOf_ok (p : Prc) (q : Int) (hq : (Lit.int .i64 q).wf = true) (m : Mem) : COk Tryd.prog 4 [.agg (cP p), .c (.int .i64 q)] m (.c (.bool true)) := by
  have h1 := fun m => of_ok18 p q hq m
  have h2 := fun m => refOf_ok p q hq m
  obtain ⟨cls, name, params, regs, code⟩ := p
  have hcp : cP ⟨cls, name, params, regs, code⟩ = [.str cls, .str name, .int .i64 params, .int .i64 regs, .sl (code.map cIns)] := rfl
  refine (ok_pure tab_ok Tryd.func4 (by kernel_rfl) rfl rfl (by rfl) (by rfl) (by rfl) (fun R hkeep => ?_) m)
  (repeat (first | refine W.seq ?_ | refine W.block ?_ | refine W.skip ?_ | refine W.exit ?_))
  refine W.region tab_ok 0 (by decide) (exec_run (by simp only [exa, beq_self_eq_true, ByteArray.size, Nat.reduceAdd, Nat.reduceLeDiff, Nat.reduceEqDiff, Nat.reduceMul, Int.reduceToNat, reduceIte, Int.reduceLE, Int.reduceNeg, hcp, List.map_cons, List.map_nil]; rfl)) ?_
  (repeat (first | refine W.seq ?_ | refine W.block ?_ | refine W.skip ?_ | refine W.exit ?_))
  refine W.regionDK tab_ok 0 follows_mixed (by kernel_rfl) (by decide) ?_
  refine runk_split 0 (by simp only [exa, beq_self_eq_true, ByteArray.size, Nat.reduceAdd, Nat.reduceLeDiff, Nat.reduceEqDiff, Nat.reduceMul, Int.reduceToNat, reduceIte, Int.reduceLE, Int.reduceNeg]; rfl) ?_
  refine runk_call rfl rfl rfl rfl rfl (by simp) cvs_nil (live_ok _) ?_
  refine runk_split 3 (by simp only [exa, beq_self_eq_true, ByteArray.size, Nat.reduceAdd, Nat.reduceLeDiff, Nat.reduceEqDiff, Nat.reduceMul, Int.reduceToNat, reduceIte, Int.reduceLE, Int.reduceNeg, hcp, List.map_cons, List.map_nil]; rfl) ?_
  refine runk_call rfl rfl rfl rfl rfl (by simp) (cvs_cons cv_refl (cvs_cons cv_refl cvs_nil)) (h1 _) ?_
  refine runk_split 2 (by simp only [exa, beq_self_eq_true, ByteArray.size, Nat.reduceAdd, Nat.reduceLeDiff, Nat.reduceEqDiff, Nat.reduceMul, Int.reduceToNat, reduceIte, Int.reduceLE, Int.reduceNeg, hcp, List.map_cons, List.map_nil]; rfl) ?_
  refine runk_call rfl rfl rfl rfl rfl (by simp) (cvs_cons cv_refl (cvs_cons cv_refl cvs_nil)) (h2 _) ?_
  refine runk_exec (by simp only [exa, beq_self_eq_true, ByteArray.size, Nat.reduceAdd, Nat.reduceLeDiff, Nat.reduceEqDiff, Nat.reduceMul, Int.reduceToNat, reduceIte, Int.reduceLE, Int.reduceNeg, eq_self, decide_true]; rfl) ?_
  repeat (first | refine W.seq ?_ | refine W.block ?_ | refine W.skip ?_ | refine W.exit ?_ | refine W.region tab_ok 0 (by decide) (exec_run (by simp only [exa, beq_self_eq_true, ByteArray.size, Nat.reduceAdd, Nat.reduceLeDiff, Nat.reduceEqDiff, Nat.reduceMul, Int.reduceToNat, reduceIte, Int.reduceLE, Int.reduceNeg]; rfl)) ?_)
  refine W.ret ⟨.inr rfl, by rfl, ?_⟩
  simp only [Tryd.f4, resA, resOne, toT, fin, exa, beq_self_eq_true, ByteArray.size, Nat.reduceAdd, Nat.reduceLeDiff, Nat.reduceEqDiff, Nat.reduceMul, Int.reduceToNat, reduceIte, Int.reduceLE, Int.reduceNeg]
end V
end Go.Proofs.YtcldeoolglhdoaaDoor
end
section
set_option linter.unusedVariables false
set_option linter.unusedSimpArgs false
namespace Go.Proofs.YtcldeoolglhdoaaDoor
namespace V
open Go.RowKit C17
section
variable {H : Type} {enc : TypeId × Value → H} {w : World} {held : Bool}
theorem sum_bulk {α : Type} {g : α → Nat} : ∀ {l : List α} {zs : List (DataW H × List MemPlace)}, l.length = zs.length → (∀ (i : Nat) y z, l[i]? = some y → zs[i]? = some z → g y ≤ Rows.uptoBulk z.1) → (l.map g).sum ≤ Rows.uptoBulkAll (zs.map (·.1))
  | [], _, _, _ => by simp
  | y :: l, [], h, _ => by simp at h
  | y :: l, z :: zs, h, k => by
    have ih := sum_bulk (g := g) (l := l) (zs := zs) (by simpa using h) fun i y' z' h1 h2 => k (i + 1) y' z' (by simpa using h1) (by simpa using h2)
    have := k 0 y z rfl rfl
    simp only [List.map_cons, List.sum_cons, Rows.uptoBulkAll]
    omega
theorem slice_sum {α : Type} {P : Go.Program} {t e : TypeId} {sz fuel : Nat} {v : Value} {x : DataW H × List MemPlace} {R : List Value → α → Prop} {J : Nat → Prop} {l : List α} {g : α → Nat} (ht : P.underlying t = some (.slice e)) (hsz : P.cellsOf e = sz) (hpos : 0 < sz)
    (hlen : ∀ cs y, R cs y → cs.length = sz) (h : DataW.trod enc P w 0 (fun _ => true) held fuel t [v] = some x) (hR : RSl sz R w J v l) (hg : ∀ n cs y z, R cs y → DataW.trod enc P w 0 (fun _ => true) held n e cs = some z → g y ≤ Rows.uptoBulk z.1) :
    (l.map g).sum ≤ Rows.uptoBulk x.1 := by
  obtain ⟨a, n, cap, rfl, hn, -, -, hel⟩ := hR
  rcases DataW.trod_slice ht h with ⟨e1, rfl⟩ | ⟨a', len, cap', elems, rest, m, -, e1, hxe, -, -, -, hlen', hall, -, -⟩
  · simp only [List.cons.injEq, Value.slice.injEq, and_true] at e1
    obtain ⟨-, rfl, -⟩ := e1
    obtain rfl : l = [] := List.length_eq_zero_iff.1 hn
    exact Nat.zero_le _
  · simp only [List.cons.injEq, Value.slice.injEq, and_true] at e1
    obtain ⟨rfl, rfl, rfl⟩ := e1
    subst hxe
    have hb : Rows.uptoBulkAll (elems.map (·.1)) ≤ Rows.uptoBulk (DataW.slice (elems.map (·.1)) (rest.map (·.1))) := by simp only [Rows.uptoBulk]; omega
    refine Nat.le_trans (sum_bulk (by omega) fun i y z hi hz => ?_) hb
    have hil := (List.getElem?_eq_some_iff.1 hi).1
    obtain ⟨b, off, cs, ea, -, hc, hr⟩ := hel i y hi
    cases ea
    have h1 := hall i (by omega)
    rw [hsz, hz] at h1
    cases hcell : w.cells? 0 ((⟨b, off, none⟩ : Addr).add (i * sz)) sz with
    | none => rw [hcell] at h1; simp at h1
    | some cs' =>
      rw [hcell] at h1
      have h1' : DataW.trod enc P w 0 (fun _ => true) held m e cs' = some z := by simpa using h1
      obtain ⟨_, hlen2, hcs⟩ := World.cells?_some hcell
      have : cs = cs' := cells_same hc (fun j hj => by
        have := hcs j (by omega)
        rw [← this]
        congr 1
        have h3 : ∀ (o k : Nat), (⟨b, o, none⟩ : Addr).add k = ⟨b, o + k, none⟩ := fun o k => by
          unfold Addr.add
          by_cases hk : k = 0
          · subst hk; rfl
          · simp [hk]
        rw [h3, h3]) (by rw [hlen _ _ hr, hlen2])
      subst this
      exact hg m cs y z hr h1'
theorem struct_bulk {P : Go.Program} {t : TypeId} {fl : List (TypeId × Nat)} {fuel : Nat} {cs : List Value} {x : DataW H × List MemPlace}
    (hf : (P.underlying t).map (fun d => match d with | .struct fs => fs.toList.map (fun f => (f.type, f.offset)) | _ => []) = some fl) (hne : fl ≠ [])
    (h : DataW.trod enc P w 0 (fun _ => true) held fuel t cs = some x) : ∀ k ∈ fl, ∃ n y, DataW.trod enc P w 0 (fun _ => true) held n k.1 ((cs.drop k.2).take (P.cellsOf k.1)) = some y ∧ Rows.uptoBulk y.1 ≤ Rows.uptoBulk x.1 := by
  cases hu : P.underlying t with
  | none => rw [hu] at hf; simp at hf
  | some d =>
    rw [hu] at hf
    simp only [Option.map_some, Option.some.injEq] at hf
    cases d with
    | struct fs =>
      simp only at hf
      obtain ⟨xs, n, hfu, hxe, hl, hlen, hall⟩ := DataW.trod_struct hu h
      intro k hk
      rw [← hf] at hk
      obtain ⟨f, hfm, rfl⟩ := List.mem_map.1 hk
      obtain ⟨i, hi⟩ := List.mem_iff_getElem?.1 hfm
      have hi' : fs[i]? = some f := by rw [← Array.getElem?_toList]; exact hi
      have := hall i f hi'
      have hlt : i < xs.length := by
        rw [hlen]
        exact (Array.getElem?_eq_some_iff.1 hi').1
      refine ⟨n, xs[i], by simpa [List.getElem?_eq_getElem hlt] using this, ?_⟩
      have h1 : xs[i].1 ∈ xs.map (·.1) := List.mem_map_of_mem (List.getElem_mem hlt)
      have h2 := bulk_mem h1
      subst hxe
      simp only [Rows.uptoBulk]
      omega
    | _ => simp only at hf; exact absurd hf.symm hne
theorem ins_bulk {n : Nat} {cs : List Value} {x : Ins} {z : DataW H × List MemPlace} (hR : RIns w (· < w.heap.size) cs x) (h : DataW.trod enc Tryd.prog w 0 (fun _ => true) held n 41 cs = some z) : x.args.length ≤ Rows.uptoBulk z.1 := by
  obtain ⟨v, rfl, -, -, hr⟩ := hR
  obtain ⟨m, y, k, b⟩ := struct_bulk fieldsIns (by simp) h (38, 9) (by simp)
  rw [cellsOf_one _ c_intsP _ _ _ rfl] at k
  exact Nat.le_trans (ints_bulk k hr) b
theorem args_bulk {n : Nat} {cs : List Value} {p : Prc} {z : DataW H × List MemPlace} (hR : RProc w (· < w.heap.size) cs p) (h : DataW.trod enc Tryd.prog w 0 (fun _ => true) held n 24 cs = some z) : (p.code.map fun x => x.args.length).sum ≤ Rows.uptoBulk z.1 := by
  obtain ⟨v, rfl, -, -, -, -, hr⟩ := hR
  obtain ⟨m, y, k, b⟩ := struct_bulk fieldsPrc (by simp) h (22, 4) (by simp)
  rw [cellsOf_one _ c_inss _ _ _ rfl] at k
  exact Nat.le_trans (slice_sum Tryd.underlying22 c_ins (by decide) (fun cs x hx => by obtain ⟨v, rfl, -⟩ := hx; rfl) k hr fun n cs x z hx hz => ins_bulk hx hz) b
end
end V
end Go.Proofs.YtcldeoolglhdoaaDoor
end
section
set_option linter.unusedVariables false
set_option linter.unusedSimpArgs false
namespace Go.Proofs.YtcldeoolglhdoaaDoor
open Go.ChangeShapes Go.WideShapes Go.ChangeAt Go.RowKit
open Go.ChangeMaps (open_string shut_string)
open V
theorem defsUses_met (os : Os) : laidMet Tryd.prog Rows.defsUsesUptoRow.laid ((laidWorld os).forCall (fun _ _ => 0) ⟨#[], #[.agg #[.string ⟨#[]⟩, .string ⟨#[]⟩, .int .i64 0, .int .i64 0, .slice none 0 0]], []⟩).memory :=
  laidMet_of_run' 8 (by kernel_rfl) (by kernel_rfl)
theorem defsUses_reads (os : Os) {H : Type} (enc : TypeId × Value → H) : ∃ places, DataW.whole enc Tryd.prog ((laidWorld os).forCall (fun _ _ => 0) ⟨#[], #[.agg #[.string ⟨#[]⟩, .string ⟨#[]⟩, .int .i64 0, .int .i64 0, .slice none 0 0]], []⟩).memory Tryd.f3.params.toList Rows.defsUsesSpec.vars false (#[.agg #[.string ⟨#[]⟩, .string ⟨#[]⟩, .int .i64 0, .int .i64 0, .slice none 0 0]] : Array Value).toList 8 = some ([.agg [.lit (.string []), .lit (.string []), .lit (.int .i64 0), .lit (.int .i64 0), .nil]], [], places) :=
  ⟨[], by kernel_rfl⟩
set_option maxRecDepth 100000 in
set_option maxHeartbeats 4000000 in
theorem defsUses_lifted (os : Os) (started : os.Started) (H : Type) (enc : TypeId × Value → H) (F : Stop.Interp) :
    ReturnsInHanded {} Tryd.checked os 3 .any ((Rows.OpenSpec.upto Rows.defsUsesSpec).preRow enc Tryd.prog Tryd.f3 Rows.defsUsesUptoRow.domain false Rows.defsUsesUptoRow.laid) (((Rows.OpenSpec.upto Rows.defsUsesSpec).at F).post enc Tryd.prog Tryd.f3 false true false false) := by
  obtain ⟨places, hx⟩ := defsUses_reads os enc
  refine returnsInHanded_of_row (C := Tryd.checked) (s := Rows.OpenSpec.upto Rows.defsUsesSpec) own started (by kernel_rfl) Tryd.func3
    (witness_row_at (enc := enc) (C := Tryd.checked) false (laidWorld os) #[.agg #[.string ⟨#[]⟩, .string ⟨#[]⟩, .int .i64 0, .int .i64 0, .slice none 0 0]] rfl (by kernel_rfl) (by kernel_rfl) (by kernel_rfl)
      (OpenSpec.preRow_of_cond 8 hx (by kernel_rfl) (fun k hk => by cases hk; rfl) (by kernel_rfl) (defsUses_met os))) ?_
  intro W base args ds gs before hval0 hW _ hcond hsz0 hL hsh _
  have hbulk : Rows.uptoBulkAll (ds ++ gs) ≤ 1048576 := of_decide_eq_true (hcond _ rfl)
  clear hcond
  have hval : ∀ (j : Nat) t v, Tryd.f3.params[j]? = some t → args[j]? = some v → Value.okWide Tryd.prog W .any base t v := hval0
  have hW' := hW
  obtain ⟨p, q, hA0, hV, rfl, hfz, hnd⟩ := hW
  have hA : DataW.TrodAll enc Tryd.prog W 0 (fun _ => true) true Tryd.f3.params.toList args.toList ds p := hA0
  have hsz : ∀ n ∈ DataW.weightsEach Tryd.prog (Tryd.f3.params.toList ++ Rows.defsUsesSpec.plain.varTypes Tryd.prog) (ds ++ gs), n ≤ reachBytes := fun n hn => of_decide_eq_true (List.all_eq_true.1 hsz0 n hn)
  rw [Tryd.params3] at hA hval hsz
  clear hsz0
  obtain ⟨v0, vs0, d0, ds0, p0, q0, hargs, rfl, rfl, h0, r0⟩ := trodAll_cons hA
  obtain ⟨rfl, rfl, rfl⟩ := trodAll_nil r0
  obtain rfl : args = #[v0] := by cases args; simp_all
  obtain ⟨rfl, rfl⟩ := trodVars_none hV
  clear hA0 hval0
  simp only [List.append_nil] at hW'
  have k0 := h0
  have lt0 : ∀ x ∈ p0, x.block < W.heap.size := by obtain ⟨m, hm⟩ := k0; exact DataW.trod_lt m _ _ _ hm
  have fit0 : Fits Tryd.prog 24 d0 := fun n hn => hsz n (DataW.weights_mem_each (j := 0) rfl rfl n hn)
  obtain ⟨cs0, rfl, -⟩ := okWide_struct Tryd.underlying24 (hval 0 24 v0 rfl rfl)
  obtain ⟨rn0, h0⟩ := h0
  obtain ⟨l0, R0⟩ := read_proc fit0 h0
  replace R0 : RProc W (· < W.heap.size) cs0.toList l0 := by simpa [Value.cells] using R0
  have hs0 := Nat.le_trans (args_bulk R0 h0) (Nat.le_trans (bulk_mem (by simp)) hbulk)
  refine (cok_true (vals := [_]) (lawUses_ok l0 (proc_len R0) hs0 _) (table hL) (fun B => ⟨rv_proc R0, trivial⟩)).mono fun e W' ⟨he, bel⟩ => ?_
  subst he
  exact ⟨_, rfl, _, _, _, [], _, [], hW', trodAll_mk1 (shut_bool Tryd.underlying4 _), trodAll_cons_mk (Below.trod laidOut (by kernel_rfl) (of_decide_eq_true (by kernel_rfl)) k0 bel lt0) trodAll_mk0, rfl, bel.frame _, fun h => by cases h⟩
theorem defsUses_holds : Rows.DefsUsesUptoSaid :=
  OpenClaim.holds_of_cond 3 Tryd.f3 rfl rfl rfl rfl rfl rfl rfl ⟨rfl, rfl, rfl, rfl, rfl⟩ rfl rfl rfl rfl rfl (by kernel_rfl) Tryd.func3 (by kernel_rfl)
    (of_decide_eq_true (by kernel_rfl)) (by unfold Func.isWrapper; first | (rw [if_pos (by decide +kernel)]; kernel_rfl) | (rw [if_neg (by decide +kernel)]; exact ⟨rfl, rfl⟩))
    (fun os started H enc _ F => by rw [OpenClaim.pre_eq_preRow]; exact defsUses_lifted os started H enc F)
theorem defsUses_plain (f : FuncId) (fn : Func) (hf : Tryd.pinned.checked.prog.funcNamed "mordant/mordantlaw18.DefsUses" = some f) (hfn : Tryd.pinned.checked.prog.funcs[f]? = some fn) :
    false = Tryd.pinned.checked.prog.looks [] ∧ ∀ (j : Nat) t, fn.params[j]? = some t → Tryd.pinned.checked.prog.wantsStandIn t = false := by
  obtain rfl : f = 3 := Option.some.inj ((show Tryd.prog.funcNamed "mordant/mordantlaw18.DefsUses" = some 3 by kernel_rfl).symm.trans hf) |>.symm
  obtain rfl : fn = Tryd.f3 := (Option.some.inj (Tryd.func3.symm.trans hfn)).symm
  refine ⟨by kernel_rfl, fun j t ht => ?_⟩
  have hall : Tryd.f3.params.all (fun t => !Tryd.prog.wantsStandIn t) = true := by kernel_rfl
  have := Array.all_eq_true'.1 hall t (Array.mem_of_getElem? ht)
  have h2 : Tryd.prog.wantsStandIn t = false := by simpa using this
  exact h2
theorem defsUses_card : Rows.DefsUsesUptoCardSaid :=
  Claim7.holds_tied_plain_at .later [] _ _ _ _ defsUses_holds (fun _ h => by cases h) (by kernel_rfl) (fun _ h => by cases h) defsUsesUpto_row_tie rfl ⟨rfl, rfl⟩ (by kernel_rfl) rfl defsUses_plain (by kernel_rfl)
end Go.Proofs.YtcldeoolglhdoaaDoor
end
section
set_option linter.unusedVariables false
set_option linter.unusedSimpArgs false
namespace Go.Proofs.YtcldeoolglhdoaaDoor
open Go.ChangeShapes Go.WideShapes Go.ChangeAt Go.RowKit
open Go.ChangeMaps (open_string shut_string)
open V
theorem defsOf_met (os : Os) : laidMet Tryd.prog Rows.defsOfRow.laid ((laidWorld os).forCall (fun _ _ => 0) ⟨#[], #[.agg #[.string ⟨#[]⟩, .string ⟨#[]⟩, .int .i64 0, .int .i64 0, .slice none 0 0], .int .i64 0], []⟩).memory :=
  laidMet_of_run' 8 (by kernel_rfl) (by kernel_rfl)
theorem defsOf_reads (os : Os) {H : Type} (enc : TypeId × Value → H) : ∃ places, DataW.whole enc Tryd.prog ((laidWorld os).forCall (fun _ _ => 0) ⟨#[], #[.agg #[.string ⟨#[]⟩, .string ⟨#[]⟩, .int .i64 0, .int .i64 0, .slice none 0 0], .int .i64 0], []⟩).memory Tryd.f4.params.toList Rows.defsOfSpec.vars false (#[.agg #[.string ⟨#[]⟩, .string ⟨#[]⟩, .int .i64 0, .int .i64 0, .slice none 0 0], .int .i64 0] : Array Value).toList 8 = some ([.agg [.lit (.string []), .lit (.string []), .lit (.int .i64 0), .lit (.int .i64 0), .nil], .lit (.int .i64 0)], [], places) :=
  ⟨[], by kernel_rfl⟩
set_option maxRecDepth 100000 in
set_option maxHeartbeats 4000000 in
theorem defsOf_lifted (os : Os) (started : os.Started) (H : Type) (enc : TypeId × Value → H) (F : Stop.Interp) :
    ReturnsInHanded {} Tryd.checked os 4 .any ((OpenSpec.ofChange Rows.defsOfSpec).preRow enc Tryd.prog Tryd.f4 Rows.defsOfRow.domain false Rows.defsOfRow.laid) (((OpenSpec.ofChange Rows.defsOfSpec).at F).post enc Tryd.prog Tryd.f4 false true false false) := by
  obtain ⟨places, hx⟩ := defsOf_reads os enc
  refine returnsInHanded_of_row (C := Tryd.checked) (s := OpenSpec.ofChange Rows.defsOfSpec) own started (by kernel_rfl) Tryd.func4
    (witness_row_at (enc := enc) (C := Tryd.checked) false (laidWorld os) #[.agg #[.string ⟨#[]⟩, .string ⟨#[]⟩, .int .i64 0, .int .i64 0, .slice none 0 0], .int .i64 0] rfl (by kernel_rfl) (by kernel_rfl) (by kernel_rfl)
      (OpenSpec.preRow_of_cond 8 hx (by kernel_rfl) (fun k hk => by cases hk) (by kernel_rfl) (defsOf_met os))) ?_
  intro W base args ds gs before hval0 hW _ _ hsz0 hL hsh _
  have hval : ∀ (j : Nat) t v, Tryd.f4.params[j]? = some t → args[j]? = some v → Value.okWide Tryd.prog W .any base t v := hval0
  have hW' := hW
  obtain ⟨p, q, hA0, hV, rfl, hfz, hnd⟩ := hW
  have hA : DataW.TrodAll enc Tryd.prog W 0 (fun _ => true) true Tryd.f4.params.toList args.toList ds p := hA0
  have hsz : ∀ n ∈ DataW.weightsEach Tryd.prog (Tryd.f4.params.toList ++ Rows.defsOfSpec.plain.varTypes Tryd.prog) (ds ++ gs), n ≤ reachBytes := fun n hn => of_decide_eq_true (List.all_eq_true.1 hsz0 n hn)
  rw [Tryd.params4] at hA hval hsz
  clear hsz0
  obtain ⟨v0, vs0, d0, ds0, p0, q0, hargs, rfl, rfl, h0, r0⟩ := trodAll_cons hA
  obtain ⟨v1, vs1, d1, ds1, p1, q1, rfl, rfl, rfl, h1, r1⟩ := trodAll_cons r0
  obtain ⟨rfl, rfl, rfl⟩ := trodAll_nil r1
  obtain rfl : args = #[v0, v1] := by cases args; simp_all
  obtain ⟨rfl, rfl⟩ := trodVars_none hV
  clear hA0 hval0
  simp only [List.append_nil] at hW'
  have k0 := h0
  have lt0 : ∀ x ∈ p0, x.block < W.heap.size := by obtain ⟨m, hm⟩ := k0; exact DataW.trod_lt m _ _ _ hm
  have k1 := h1
  have lt1 : ∀ x ∈ p1, x.block < W.heap.size := by obtain ⟨m, hm⟩ := k1; exact DataW.trod_lt m _ _ _ hm
  have fit0 : Fits Tryd.prog 24 d0 := fun n hn => hsz n (DataW.weights_mem_each (j := 0) rfl rfl n hn)
  obtain ⟨cs0, rfl, -⟩ := okWide_struct Tryd.underlying24 (hval 0 24 v0 rfl rfl)
  obtain ⟨rn0, h0⟩ := h0
  obtain ⟨l0, R0⟩ := read_proc fit0 h0
  replace R0 : RProc W (· < W.heap.size) cs0.toList l0 := by simpa [Value.cells] using R0
  obtain ⟨z1, rfl⟩ := okWide_int Tryd.underlying3 (hval 1 3 v1 rfl rfl)
  obtain ⟨rn1, h1⟩ := h1
  obtain ⟨ra1, re1, wf1⟩ := read_int h1
  obtain rfl : ra1 = z1 := by simpa [Value.cells] using re1.symm
  refine (cok_true (vals := [_, _]) (lawOf_ok l0 ra1 wf1 _) (table hL) (fun B => ⟨rv_proc R0, rv_int wf1, trivial⟩)).mono fun e W' ⟨he, bel⟩ => ?_
  subst he
  exact ⟨_, rfl, _, _, _, [], _, [], hW', trodAll_mk1 (shut_bool Tryd.underlying4 _), trodAll_cons_mk (Below.trod laidOut (by kernel_rfl) (of_decide_eq_true (by kernel_rfl)) k0 bel lt0) (trodAll_cons_mk (Below.trod laidOut (by kernel_rfl) (of_decide_eq_true (by kernel_rfl)) k1 bel lt1) trodAll_mk0), rfl, bel.frame _, fun h => by cases h⟩
theorem defsOf_holds : Rows.DefsOfSaid :=
  OpenClaim.holds_of_cond 4 Tryd.f4 rfl rfl rfl rfl rfl rfl rfl ⟨rfl, rfl, rfl, rfl, rfl⟩ rfl rfl rfl rfl rfl (by kernel_rfl) Tryd.func4 (by kernel_rfl)
    (of_decide_eq_true (by kernel_rfl)) (by unfold Func.isWrapper; first | (rw [if_pos (by decide +kernel)]; kernel_rfl) | (rw [if_neg (by decide +kernel)]; exact ⟨rfl, rfl⟩))
    (fun os started H enc _ F => by rw [OpenClaim.pre_eq_preRow]; exact defsOf_lifted os started H enc F)
theorem defsOf_plain (f : FuncId) (fn : Func) (hf : Tryd.pinned.checked.prog.funcNamed "mordant/mordantlaw18.DefsOf" = some f) (hfn : Tryd.pinned.checked.prog.funcs[f]? = some fn) :
    false = Tryd.pinned.checked.prog.looks [] ∧ ∀ (j : Nat) t, fn.params[j]? = some t → Tryd.pinned.checked.prog.wantsStandIn t = false := by
  obtain rfl : f = 4 := Option.some.inj ((show Tryd.prog.funcNamed "mordant/mordantlaw18.DefsOf" = some 4 by kernel_rfl).symm.trans hf) |>.symm
  obtain rfl : fn = Tryd.f4 := (Option.some.inj (Tryd.func4.symm.trans hfn)).symm
  refine ⟨by kernel_rfl, fun j t ht => ?_⟩
  have hall : Tryd.f4.params.all (fun t => !Tryd.prog.wantsStandIn t) = true := by kernel_rfl
  have := Array.all_eq_true'.1 hall t (Array.mem_of_getElem? ht)
  have h2 : Tryd.prog.wantsStandIn t = false := by simpa using this
  exact h2
theorem defsOf_card : Rows.DefsOfCardSaid :=
  Claim7.holds_tied_plain_at .later [] _ _ _ _ defsOf_holds (fun _ h => by cases h) (by kernel_rfl) (fun _ h => by cases h) defsOf_row_tie rfl ⟨rfl, rfl⟩ (by kernel_rfl) rfl defsOf_plain (by kernel_rfl)
end Go.Proofs.YtcldeoolglhdoaaDoor
end
section
set_option linter.unusedVariables false
set_option linter.unusedSimpArgs false
namespace Go.Proofs.YtcldeoolglhdoaaDoor
namespace V
open Go.RowKit G C17 D18
theorem edD_at {code : List Ins} {rg : Nat} (hok : okD code rg = true) {i : Nat} {z : Int × Int} (h : (edD code rg)[i]? = some z) : ∃ d j r : Nat, ∃ x : Ins, z = ((d : Int) - rg, (j : Int)) ∧ d < rg + code.length ∧ code[j]? = some x ∧ rgD code rg d = some r ∧ r < rg ∧ useB (usI x) r = true := by
  obtain ⟨a, b⟩ := z
  obtain ⟨d, j, rfl, rfl, hd, hj, r, h1, h2, -⟩ := mem_edD.1 (List.mem_of_getElem? h)
  obtain ⟨x, hx⟩ : ∃ x, code[j]? = some x := ⟨_, List.getElem?_eq_getElem hj⟩
  exact ⟨d, j, r, x, rfl, hd, hx, h1, (rgD_lt hok h1).1, (useB_iff hok hx).2 h2⟩
theorem edD_prev {code : List Ins} {rg : Nat} {i : Nat} {y z : Int × Int} (hy : (edD code rg)[i]? = some y) (hz : (edD code rg)[i + 1]? = some z) : ltZ y z := by
  obtain ⟨h1, e1⟩ := List.getElem?_eq_some_iff.1 hy
  obtain ⟨h2, e2⟩ := List.getElem?_eq_some_iff.1 hz
  have := List.pairwise_iff_getElem.1 (edD_rising (code := code) (R := rg)) i (i + 1) h1 h2 (by omega)
  rwa [e1, e2] at this
set_option maxHeartbeats 8000000 in
theorem lawFit_ok (p : Prc) (hpl : p.code.length ≤ 1000000000000000) (hsum : (p.code.map fun x => x.args.length).sum ≤ 1048576) (m : Mem) : COk Tryd.prog 6 [.agg (cP p)] m (.c (.bool true)) := by
  have hu := fun m => usesP_ok p hpl hsum m
  cases hok : okD p.code p.regs with
  | false =>
    have e : usesA p = [(false, [.sl []]), (false, [.int .i64 110])] := by unfold usesA; rw [if_neg (by simp [hok])]
    rw [e] at hu
    obtain ⟨cls, name, params, regs, code⟩ := p
    have hcp : cP ⟨cls, name, params, regs, code⟩ = [.str cls, .str name, .int .i64 params, .int .i64 regs, .sl (code.map cIns)] := rfl
    refine (ok_pure tab_ok Tryd.func6 (by kernel_rfl) rfl rfl (by rfl) (by rfl) (by rfl) (fun R hkeep => ?_) m)
    (repeat (first | refine W.seq ?_ | refine W.block ?_ | refine W.skip ?_ | refine W.exit ?_))
    refine W.region tab_ok 0 (by decide) (exec_run (by simp only [exa, beq_self_eq_true, ByteArray.size, Nat.reduceAdd, Nat.reduceLeDiff, Nat.reduceEqDiff, Nat.reduceMul, Int.reduceToNat, reduceIte, Int.reduceLE, Int.reduceNeg, hcp, List.map_cons, List.map_nil]; rfl)) ?_
    (repeat (first | refine W.seq ?_ | refine W.block ?_ | refine W.skip ?_ | refine W.exit ?_))
    refine W.regionK tab_ok 0 (by decide) ?_
    refine runk_split 0 (by simp only [exa, beq_self_eq_true, ByteArray.size, Nat.reduceAdd, Nat.reduceLeDiff, Nat.reduceEqDiff, Nat.reduceMul, Int.reduceToNat, reduceIte, Int.reduceLE, Int.reduceNeg]; rfl) ?_
    refine runk_call rfl rfl rfl rfl rfl (by simp) cvs_nil (live_ok _) ?_
    refine runk_exec (by simp only [exa, beq_self_eq_true, ByteArray.size, Nat.reduceAdd, Nat.reduceLeDiff, Nat.reduceEqDiff, Nat.reduceMul, Int.reduceToNat, reduceIte, Int.reduceLE, Int.reduceNeg]; rfl) ?_
    (repeat (first | refine W.seq ?_ | refine W.block ?_ | refine W.skip ?_ | refine W.exit ?_))
    refine W.regionK tab_ok 0 (by decide) ?_
    refine runk_split 1 (by simp only [exa, beq_self_eq_true, ByteArray.size, Nat.reduceAdd, Nat.reduceLeDiff, Nat.reduceEqDiff, Nat.reduceMul, Int.reduceToNat, reduceIte, Int.reduceLE, Int.reduceNeg, hcp, List.map_cons, List.map_nil]; rfl) ?_
    refine runk_call rfl rfl rfl rfl rfl (by simp) (cvs_cons cv_refl cvs_nil) (hu _) ?_
    refine runk_exec (by simp only [exa, beq_self_eq_true, ByteArray.size, Nat.reduceAdd, Nat.reduceLeDiff, Nat.reduceEqDiff, Nat.reduceMul, Int.reduceToNat, reduceIte, Int.reduceLE, Int.reduceNeg]; rfl) ?_
    repeat (first | refine W.seq ?_ | refine W.block ?_ | refine W.skip ?_ | refine W.exit ?_ | refine W.region tab_ok 0 (by decide) (exec_run (by simp only [exa, beq_self_eq_true, ByteArray.size, Nat.reduceAdd, Nat.reduceLeDiff, Nat.reduceEqDiff, Nat.reduceMul, Int.reduceToNat, reduceIte, Int.reduceLE, Int.reduceNeg, Int.reduceEq, decide_false, Bool.not_false, not_false_eq_true, decide_true]; rfl)) ?_)
    refine W.cond rfl (fun _ => ?_) (fun h => absurd h (by simp))
    repeat (first | refine W.seq ?_ | refine W.block ?_ | refine W.skip ?_ | refine W.exit ?_ | refine W.region tab_ok 0 (by decide) (exec_run (by simp only [exa, beq_self_eq_true, ByteArray.size, Nat.reduceAdd, Nat.reduceLeDiff, Nat.reduceEqDiff, Nat.reduceMul, Int.reduceToNat, reduceIte, Int.reduceLE, Int.reduceNeg, List.length_nil, Int.reduceEq, decide_true, Int.cast_ofNat_Int, eq_self]; rfl)) ?_)
    refine W.ret ⟨.inr rfl, by rfl, ?_⟩
    simp only [Tryd.f6, resA, resOne, toT, fin, exa, beq_self_eq_true, ByteArray.size, Nat.reduceAdd, Nat.reduceLeDiff, Nat.reduceEqDiff, Nat.reduceMul, Int.reduceToNat, reduceIte, Int.reduceLE, Int.reduceNeg]
  | true =>
    have hl := okD_len hok
    obtain ⟨rg, hrg⟩ := Int.eq_ofNat_of_zero_le hl.2.2.1
    have e : usesA p = [(false, [.sl ((edD p.code rg).map cE)]), (false, [.int .i64 0])] := by unfold usesA; rw [if_pos hok, hrg]; rfl
    rw [e] at hu
    have hok' : okD p.code rg = true := by rw [← hrg]; exact hok
    have hargs : ∀ x ∈ p.code, x.args.length ≤ 1048576 := fun x hx => Nat.le_trans (args_le hx) hsum
    have hwf : ∀ d : Nat, d < rg + p.code.length → (Lit.int .i64 ((d : Int) - rg)).wf = true := fun d hd => by rw [lit_wf]; simp [IntKind.min, IntKind.max, IntKind.bits, IntKind.signed]; omega
    have hof := fun (d : Nat) (hd : d < rg + p.code.length) m => of_ok18 p ((d : Int) - rg) (hwf d hd) m
    have hLn : (edD p.code rg).length ≤ 24000000 := by
      refine Nat.le_trans (edD_len _ _) ?_
      exact Nat.le_trans (Nat.mul_le_mul (show _ ≤ 12000 by omega) (show _ ≤ 2000 by omega)) (by decide)
    obtain ⟨cls, name, params, regs, code⟩ := p
    simp only at hrg hok' hof hl hLn hargs ⊢
    subst hrg
    have hcp : cP ⟨cls, name, params, rg, code⟩ = [.str cls, .str name, .int .i64 params, .int .i64 rg, .sl (code.map cIns)] := rfl
    refine (ok_pure tab_ok Tryd.func6 (by kernel_rfl) rfl rfl (by rfl) (by rfl) (by rfl) (fun R hkeep => ?_) m)
    (repeat (first | refine W.seq ?_ | refine W.block ?_ | refine W.skip ?_ | refine W.exit ?_))
    refine W.region tab_ok 0 (by decide) (exec_run (by simp only [exa, beq_self_eq_true, ByteArray.size, Nat.reduceAdd, Nat.reduceLeDiff, Nat.reduceEqDiff, Nat.reduceMul, Int.reduceToNat, reduceIte, Int.reduceLE, Int.reduceNeg, hcp, List.map_cons, List.map_nil]; rfl)) ?_
    (repeat (first | refine W.seq ?_ | refine W.block ?_ | refine W.skip ?_ | refine W.exit ?_))
    refine W.regionK tab_ok 0 (by decide) ?_
    refine runk_split 0 (by simp only [exa, beq_self_eq_true, ByteArray.size, Nat.reduceAdd, Nat.reduceLeDiff, Nat.reduceEqDiff, Nat.reduceMul, Int.reduceToNat, reduceIte, Int.reduceLE, Int.reduceNeg]; rfl) ?_
    refine runk_call rfl rfl rfl rfl rfl (by simp) cvs_nil (live_ok _) ?_
    refine runk_exec (by simp only [exa, beq_self_eq_true, ByteArray.size, Nat.reduceAdd, Nat.reduceLeDiff, Nat.reduceEqDiff, Nat.reduceMul, Int.reduceToNat, reduceIte, Int.reduceLE, Int.reduceNeg]; rfl) ?_
    (repeat (first | refine W.seq ?_ | refine W.block ?_ | refine W.skip ?_ | refine W.exit ?_))
    refine W.regionK tab_ok 0 (by decide) ?_
    refine runk_split 1 (by simp only [exa, beq_self_eq_true, ByteArray.size, Nat.reduceAdd, Nat.reduceLeDiff, Nat.reduceEqDiff, Nat.reduceMul, Int.reduceToNat, reduceIte, Int.reduceLE, Int.reduceNeg, hcp, List.map_cons, List.map_nil]; rfl) ?_
    refine runk_call rfl rfl rfl rfl rfl (by simp) (cvs_cons cv_refl cvs_nil) (hu _) ?_
    refine runk_exec (by simp only [exa, beq_self_eq_true, ByteArray.size, Nat.reduceAdd, Nat.reduceLeDiff, Nat.reduceEqDiff, Nat.reduceMul, Int.reduceToNat, reduceIte, Int.reduceLE, Int.reduceNeg]; rfl) ?_
    repeat (first | refine W.seq ?_ | refine W.block ?_ | refine W.skip ?_ | refine W.exit ?_ | refine W.region tab_ok 0 (by decide) (exec_run (by simp only [exa, beq_self_eq_true, ByteArray.size, Nat.reduceAdd, Nat.reduceLeDiff, Nat.reduceEqDiff, Nat.reduceMul, Int.reduceToNat, reduceIte, Int.reduceLE, Int.reduceNeg, eq_self, decide_true, Bool.not_true, not_true_eq_false, decide_false]; rfl)) ?_)
    refine W.cond rfl (fun h => absurd h (by simp)) (fun _ => ?_)
    repeat (first | refine W.seq ?_ | refine W.block ?_ | refine W.skip ?_ | refine W.exit ?_ | refine W.region tab_ok 0 (by decide) (exec_run (by simp only [exa, beq_self_eq_true, ByteArray.size, Nat.reduceAdd, Nat.reduceLeDiff, Nat.reduceEqDiff, Nat.reduceMul, Int.reduceToNat, reduceIte, Int.reduceLE, Int.reduceNeg, List.length_map]; rfl)) ?_)
    refine W.loop (ι := Nat) (fun i => ⟨upd (upd (upd (upd (upd (upd (fun _ => .top) 1 (.ptr 1 0)) 3 (.c (.bool true))) 4 (.c (.sl ((edD code rg).map cE)))) 26 (.c (.sl ((edD code rg).map cE)))) 27 (.c (.int .i64 (edD code rg).length))) 28 (.c (.int .i64 i)), upd Mem.nil 1 (some (.box 24 [.c (.str cls), .c (.str name), .c (.int .i64 params), .c (.int .i64 rg), .c (.sl (code.map cIns))]))⟩) (fun i => i ≤ (edD code rg).length) (fun i => (edD code rg).length - i) 0 ?start (Nat.zero_le _) ?round
    case start =>
      refine le_mk ?sle ?mle ?swf ?mwf (kept_not hkeep) (by rfl)
      case swf => repeat (first | exact swf_top _ | refine swf_upd ?_ (by simp [A.ids, upd_app]))
      case mwf => repeat (first | exact mwf_nil _ | refine mwf_upd ?_ (by simp [A.ids, O.ids, upd_app]))
      case mle => repeat (first | exact mle_nil _ | exact mle_refl _ | refine mle_upd ?_ (by first | rfl | (simp only [upd_app, killM_app, O.kill, A.kill, Nat.reduceEqDiff, reduceIte, Option.map_some, Option.map_none, List.map_cons, List.map_nil]; done)))
      case sle => repeat (first | exact sle_top _ | exact sle_refl _ | refine sle_upd ?_ (by first | rfl | (simp only [upd_app, killS_app, A.kill, entry_zero, entry_succ, Nat.reduceEqDiff, reduceIte]; done)))
    case round =>
      intro i hi
      repeat (first | refine W.seq ?_ | refine W.block ?_ | refine W.skip ?_ | refine W.exit ?_ | refine W.region tab_ok 0 (by decide) (exec_run (by simp only [exa, beq_self_eq_true, ByteArray.size, Nat.reduceAdd, Nat.reduceLeDiff, Nat.reduceEqDiff, Nat.reduceMul, Int.reduceToNat, reduceIte, Int.reduceLE, Int.reduceNeg]; rfl)) ?_)
      refine W.cond rfl ?_ ?_
      · intro hlt
        simp only [decide_eq_true_eq, Int.ofNat_lt] at hlt
        obtain ⟨z, hz⟩ : ∃ z, (edD code rg)[i]? = some z := ⟨_, List.getElem?_eq_getElem hlt⟩
        obtain ⟨d, j, r, x, rfl, hd, hx, hr, hrr, huse⟩ := edD_at hok' hz
        have hjl := (List.getElem?_eq_some_iff.1 hx).1
        have hax := hargs x (List.mem_of_getElem? hx)
        have hofd := fun m => hof d hd m
        rw [ofI_place hok' hr] at hofd
        have q1 := eq_false (show ¬ ((r : Int) < 0) by omega)
        have q2 := eq_false (show ¬ ((rg : Int) ≤ r) by omega)
        have q3 := eq_false (show ¬ ((j : Int) < 0) by omega)
        have q4 := eq_false (show ¬ ((code.length : Int) ≤ j) by omega)
        have hj0 : (0 : Int) ≤ (j : Int) := by omega
        have hUl := usI_len x
        (repeat (first | refine W.seq ?_ | refine W.block ?_ | refine W.skip ?_ | refine W.exit ?_))
        refine W.region tab_ok 0 (by decide) (exec_run (by simp only [exa, beq_self_eq_true, ByteArray.size, Nat.reduceAdd, Nat.reduceLeDiff, Nat.reduceEqDiff, Nat.reduceMul, Int.reduceToNat, reduceIte, Int.reduceLE, Int.reduceNeg, at_map hz, cE]; rfl)) ?_
        (repeat (first | refine W.seq ?_ | refine W.block ?_ | refine W.skip ?_ | refine W.exit ?_))
        refine W.regionK tab_ok 0 (by decide) ?_
        refine runk_split 3 (by simp only [exa, beq_self_eq_true, ByteArray.size, Nat.reduceAdd, Nat.reduceLeDiff, Nat.reduceEqDiff, Nat.reduceMul, Int.reduceToNat, reduceIte, Int.reduceLE, Int.reduceNeg, hcp, List.map_cons, List.map_nil]; rfl) ?_
        refine runk_call rfl rfl rfl rfl rfl (by simp) (cvs_cons cv_refl (cvs_cons cv_refl cvs_nil)) (hofd _) ?_
        refine runk_exec (by simp only [exa, beq_self_eq_true, ByteArray.size, Nat.reduceAdd, Nat.reduceLeDiff, Nat.reduceEqDiff, Nat.reduceMul, Int.reduceToNat, reduceIte, Int.reduceLE, Int.reduceNeg]; rfl) ?_
        repeat (first | refine W.seq ?_ | refine W.block ?_ | refine W.skip ?_ | refine W.exit ?_ | refine W.region tab_ok 0 (by decide) (exec_run (by simp only [exa, beq_self_eq_true, ByteArray.size, Nat.reduceAdd, Nat.reduceLeDiff, Nat.reduceEqDiff, Nat.reduceMul, Int.reduceToNat, reduceIte, Int.reduceLE, Int.reduceNeg, q1, q2, q3, q4, decide_false, List.length_map]; rfl)) ?_)
        refine W.cond rfl (fun h => absurd h (by simp)) (fun _ => ?_)
        (repeat (first | refine W.seq ?_ | refine W.block ?_ | refine W.skip ?_ | refine W.exit ?_))
        refine W.region tab_ok 0 (by decide) (exec_run (by simp only [exa, beq_self_eq_true, ByteArray.size, Nat.reduceAdd, Nat.reduceLeDiff, Nat.reduceEqDiff, Nat.reduceMul, Int.reduceToNat, reduceIte, Int.reduceLE, Int.reduceNeg]; rfl)) ?_
        (repeat (first | refine W.seq ?_ | refine W.block ?_ | refine W.skip ?_ | refine W.exit ?_))
        refine W.regionK tab_ok 0 (by decide) ?_
        refine runk_split 6 (by simp only [exa, beq_self_eq_true, ByteArray.size, Nat.reduceAdd, Nat.reduceLeDiff, Nat.reduceEqDiff, Nat.reduceMul, Int.reduceToNat, reduceIte, Int.reduceLE, Int.reduceNeg, at_map hx, List.length_map, hjl, hj0, Int.toNat_natCast, and_self]; rfl) ?_
        refine runk_call rfl rfl rfl rfl rfl (by simp) (cvs_cons cv_refl cvs_nil) (refUses_ok x (by omega) _) ?_
        refine runk_exec (by simp only [exa, beq_self_eq_true, ByteArray.size, Nat.reduceAdd, Nat.reduceLeDiff, Nat.reduceEqDiff, Nat.reduceMul, Int.reduceToNat, reduceIte, Int.reduceLE, Int.reduceNeg, List.length_map]; rfl) ?_
        (repeat (first | refine W.seq ?_ | refine W.block ?_ | refine W.skip ?_ | refine W.exit ?_))
        refine W.loop (ι := Nat) (fun q => ⟨upd (upd (upd (upd (upd (upd (upd (upd (upd (upd (upd (upd (upd (fun _ => .top) 1 (.ptr 1 0)) 3 (.c (.bool true))) 4 (.c (.sl ((edD code rg).map cE)))) 26 (.c (.sl ((edD code rg).map cE)))) 27 (.c (.int .i64 (edD code rg).length))) 28 (.c (.int .i64 i))) 6 (.c (.int .i64 i))) 7 (.ptr 7 0)) 8 (.c (.int .i64 r))) 9 (.c (.bool (useB ((usI x).take q) r)))) 64 (.c (.sl ((usI x).map cZ)))) 65 (.c (.int .i64 (usI x).length))) 66 (.c (.int .i64 q)), upd (upd Mem.nil 1 (some (.box 24 [.c (.str cls), .c (.str name), .c (.int .i64 params), .c (.int .i64 rg), .c (.sl (code.map cIns))]))) 7 (some (.box 37 [.c (.int .i64 ((d : Int) - rg)), .c (.int .i64 j)]))⟩) (fun q => q ≤ (usI x).length) (fun q => (usI x).length - q) 0 ?start2 (Nat.zero_le _) ?round2
        case start2 =>
          refine le_mk ?sle ?mle ?swf ?mwf (kept_not hkeep) (by rfl)
          case swf => repeat (first | exact swf_top _ | refine swf_upd ?_ (by simp [A.ids, upd_app]))
          case mwf => repeat (first | exact mwf_nil _ | refine mwf_upd ?_ (by simp [A.ids, O.ids, upd_app]))
          case mle => repeat (first | exact mle_nil _ | exact mle_refl _ | refine mle_upd ?_ (by first | rfl | (simp only [upd_app, killM_app, O.kill, A.kill, Nat.reduceEqDiff, reduceIte, Option.map_some, Option.map_none, List.map_cons, List.map_nil]; done)))
          case sle => repeat (first | exact sle_top _ | exact sle_refl _ | refine sle_upd ?_ (by first | rfl | (simp only [upd_app, killS_app, A.kill, entry_zero, entry_succ, Nat.reduceEqDiff, reduceIte]; done)))
        case round2 =>
          intro q hq
          repeat (first | refine W.seq ?_ | refine W.block ?_ | refine W.skip ?_ | refine W.exit ?_ | refine W.region tab_ok 0 (by decide) (exec_run (by simp only [exa, beq_self_eq_true, ByteArray.size, Nat.reduceAdd, Nat.reduceLeDiff, Nat.reduceEqDiff, Nat.reduceMul, Int.reduceToNat, reduceIte, Int.reduceLE, Int.reduceNeg]; rfl)) ?_)
          refine W.cond rfl ?_ ?_
          · intro hlq
            simp only [decide_eq_true_eq, Int.ofNat_lt] at hlq
            obtain ⟨u, hu2⟩ : ∃ u, (usI x)[q]? = some u := ⟨_, List.getElem?_eq_getElem hlq⟩
            have hsucc : useB ((usI x).take (q + 1)) r = (useB ((usI x).take q) r || decide (u = (r : Int))) := by
              unfold useB; rw [List.take_add_one, hu2, List.any_append]; simp
            obtain ⟨b, hb⟩ : ∃ b, b = useB ((usI x).take q) r := ⟨_, rfl⟩
            rw [← hb] at hsucc ⊢
            (repeat (first | refine W.seq ?_ | refine W.block ?_ | refine W.skip ?_ | refine W.exit ?_))
            refine W.region tab_ok 0 (by decide) (exec_run (by simp only [exa, beq_self_eq_true, ByteArray.size, Nat.reduceAdd, Nat.reduceLeDiff, Nat.reduceEqDiff, Nat.reduceMul, Int.reduceToNat, reduceIte, Int.reduceLE, Int.reduceNeg, at_map hu2, cZ]; rfl)) ?_
            cases b with
            | true =>
              rw [Bool.true_or] at hsucc
              repeat (first | refine W.seq ?_ | refine W.block ?_ | refine W.skip ?_ | refine W.exit ?_ | refine W.region tab_ok 0 (by decide) (exec_run (by simp only [exa, beq_self_eq_true, ByteArray.size, Nat.reduceAdd, Nat.reduceLeDiff, Nat.reduceEqDiff, Nat.reduceMul, Int.reduceToNat, reduceIte, Int.reduceLE, Int.reduceNeg]; rfl)) ?_)
              refine ⟨q + 1, hlq, by omega, ?_⟩
              rw [hsucc]
              refine le_mk ?sle ?mle ?swf ?mwf (kept_not hkeep) (by rfl)
              case swf => repeat (first | exact swf_top _ | refine swf_upd ?_ (by simp [A.ids, upd_app, wrap_succ (show q + 1 < 9223372036854775808 by omega)]))
              case mwf => repeat (first | exact mwf_nil _ | refine mwf_upd ?_ (by simp [A.ids, O.ids, upd_app, wrap_succ (show q + 1 < 9223372036854775808 by omega)]))
              case mle => repeat (first | exact mle_nil _ | exact mle_refl _ | refine mle_upd ?_ (by first | rfl | (simp only [upd_app, killM_app, O.kill, A.kill, Nat.reduceEqDiff, reduceIte, Option.map_some, Option.map_none, List.map_cons, List.map_nil, wrap_succ (show q + 1 < 9223372036854775808 by omega)]; done)))
              case sle => repeat (first | exact sle_top _ | exact sle_refl _ | refine sle_upd ?_ (by first | rfl | (simp only [upd_app, killS_app, A.kill, entry_zero, entry_succ, Nat.reduceEqDiff, reduceIte, wrap_succ (show q + 1 < 9223372036854775808 by omega)]; done)))
            | false =>
              rw [Bool.false_or] at hsucc
              repeat (first | refine W.seq ?_ | refine W.block ?_ | refine W.skip ?_ | refine W.exit ?_ | refine W.region tab_ok 0 (by decide) (exec_run (by simp only [exa, beq_self_eq_true, ByteArray.size, Nat.reduceAdd, Nat.reduceLeDiff, Nat.reduceEqDiff, Nat.reduceMul, Int.reduceToNat, reduceIte, Int.reduceLE, Int.reduceNeg]; rfl)) ?_)
              refine ⟨q + 1, hlq, by omega, ?_⟩
              rw [hsucc]
              refine le_mk ?sle ?mle ?swf ?mwf (kept_not hkeep) (by rfl)
              case swf => repeat (first | exact swf_top _ | refine swf_upd ?_ (by simp [A.ids, upd_app, wrap_succ (show q + 1 < 9223372036854775808 by omega)]))
              case mwf => repeat (first | exact mwf_nil _ | refine mwf_upd ?_ (by simp [A.ids, O.ids, upd_app, wrap_succ (show q + 1 < 9223372036854775808 by omega)]))
              case mle => repeat (first | exact mle_nil _ | exact mle_refl _ | refine mle_upd ?_ (by first | rfl | (simp only [upd_app, killM_app, O.kill, A.kill, Nat.reduceEqDiff, reduceIte, Option.map_some, Option.map_none, List.map_cons, List.map_nil, wrap_succ (show q + 1 < 9223372036854775808 by omega)]; done)))
              case sle => repeat (first | exact sle_top _ | exact sle_refl _ | refine sle_upd ?_ (by first | rfl | (simp only [upd_app, killS_app, A.kill, entry_zero, entry_succ, Nat.reduceEqDiff, reduceIte, wrap_succ (show q + 1 < 9223372036854775808 by omega)]; done)))
          · intro hge
            simp only [decide_eq_false_iff_not, Int.ofNat_lt] at hge
            obtain rfl : q = (usI x).length := by omega
            rw [List.take_length, huse]
            (repeat (first | refine W.seq ?_ | refine W.block ?_ | refine W.skip ?_ | refine W.exit ?_))
            cases i with
            | zero =>
              refine W.regionDK tab_ok 0 follows_mixed (by kernel_rfl) (by decide) ?_
              refine runk_exec (by simp only [exa, beq_self_eq_true, ByteArray.size, Nat.reduceAdd, Nat.reduceLeDiff, Nat.reduceEqDiff, Nat.reduceMul, Int.reduceToNat, reduceIte, Int.reduceLE, Int.reduceNeg, Bool.not_true, Int.cast_ofNat_Int, Int.natCast_zero, Int.lt_irrefl, Int.reduceLT, decide_false]; rfl) ?_
              refine W.cond rfl (fun h => absurd h (by simp)) (fun _ => ?_)
              repeat (first | refine W.seq ?_ | refine W.block ?_ | refine W.skip ?_ | refine W.exit ?_ | refine W.region tab_ok 0 (by decide) (exec_run (by simp only [exa, beq_self_eq_true, ByteArray.size, Nat.reduceAdd, Nat.reduceLeDiff, Nat.reduceEqDiff, Nat.reduceMul, Int.reduceToNat, reduceIte, Int.reduceLE, Int.reduceNeg]; rfl)) ?_)
              refine ⟨0 + 1, hlt, by omega, ?_⟩
              refine le_mk ?sle ?mle ?swf ?mwf (kept_not hkeep) (by rfl)
              case swf => repeat (first | exact swf_top _ | refine swf_upd ?_ (by simp [A.ids, upd_app, wrap_succ (show 0 + 1 < 9223372036854775808 by omega)]))
              case mwf => repeat (first | exact mwf_nil _ | refine mwf_upd ?_ (by simp [A.ids, O.ids, upd_app, wrap_succ (show 0 + 1 < 9223372036854775808 by omega)]))
              case mle => repeat (first | exact mle_nil _ | exact mle_refl _ | refine mle_upd ?_ (by first | rfl | (simp only [upd_app, killM_app, O.kill, A.kill, Nat.reduceEqDiff, reduceIte, Option.map_some, Option.map_none, List.map_cons, List.map_nil, wrap_succ (show 0 + 1 < 9223372036854775808 by omega)]; done)))
              case sle => repeat (first | exact sle_top _ | exact sle_refl _ | refine sle_upd ?_ (by first | rfl | (simp only [upd_app, killS_app, A.kill, entry_zero, entry_succ, Nat.reduceEqDiff, reduceIte, wrap_succ (show 0 + 1 < 9223372036854775808 by omega)]; done)))
            | succ i =>
              obtain ⟨⟨y1, y2⟩, hy⟩ : ∃ y, (edD code rg)[i]? = some y := ⟨_, List.getElem?_eq_getElem (by omega)⟩
              have hlz := edD_prev hy hz
              have hpos := eq_true (show (0 : Int) < ((i + 1 : Nat) : Int) by omega)
              have hws : IntKind.i64.wrap (((i + 1 : Nat) : Int) - 1) = (i : Int) := by rw [IntKind.wrap_i64]; omega
              have hil : i < (edD code rg).length := by omega
              have hi0 : (0 : Int) ≤ (i : Int) := by omega
              have k1 := eq_false (show ¬ ((d : Int) - rg < y1) by unfold ltZ at hlz; simp only at hlz; omega)
              rcases eqTF (y1 = (d : Int) - rg) with k2 | k2
              · have k3 := eq_false (show ¬ ((j : Int) ≤ y2) by unfold ltZ at hlz; simp only at hlz; have := of_eq_true k2; omega)
                refine W.regionDK tab_ok 0 follows_mixed (by kernel_rfl) (by decide) ?_
                refine runk_exec (by simp only [exa, beq_self_eq_true, ByteArray.size, Nat.reduceAdd, Nat.reduceLeDiff, Nat.reduceEqDiff, Nat.reduceMul, Int.reduceToNat, reduceIte, Int.reduceLE, Int.reduceNeg, Bool.not_true, hpos, hws, at_map hy, cE, List.length_map, hil, hi0, Int.toNat_natCast, and_self, k1, k2, k3, decide_true, decide_false]; rfl) ?_
                refine W.cond rfl (fun h => absurd h (by simp)) (fun _ => ?_)
                repeat (first | refine W.seq ?_ | refine W.block ?_ | refine W.skip ?_ | refine W.exit ?_ | refine W.region tab_ok 0 (by decide) (exec_run (by simp only [exa, beq_self_eq_true, ByteArray.size, Nat.reduceAdd, Nat.reduceLeDiff, Nat.reduceEqDiff, Nat.reduceMul, Int.reduceToNat, reduceIte, Int.reduceLE, Int.reduceNeg]; rfl)) ?_)
                refine ⟨i + 1 + 1, hlt, by omega, ?_⟩
                refine le_mk ?sle ?mle ?swf ?mwf (kept_not hkeep) (by rfl)
                case swf => repeat (first | exact swf_top _ | refine swf_upd ?_ (by simp [A.ids, upd_app, wrap_succ (show i + 1 + 1 < 9223372036854775808 by omega)]))
                case mwf => repeat (first | exact mwf_nil _ | refine mwf_upd ?_ (by simp [A.ids, O.ids, upd_app, wrap_succ (show i + 1 + 1 < 9223372036854775808 by omega)]))
                case mle => repeat (first | exact mle_nil _ | exact mle_refl _ | refine mle_upd ?_ (by first | rfl | (simp only [upd_app, killM_app, O.kill, A.kill, Nat.reduceEqDiff, reduceIte, Option.map_some, Option.map_none, List.map_cons, List.map_nil, wrap_succ (show i + 1 + 1 < 9223372036854775808 by omega)]; done)))
                case sle => repeat (first | exact sle_top _ | exact sle_refl _ | refine sle_upd ?_ (by first | rfl | (simp only [upd_app, killS_app, A.kill, entry_zero, entry_succ, Nat.reduceEqDiff, reduceIte, wrap_succ (show i + 1 + 1 < 9223372036854775808 by omega)]; done)))
              · skip
                refine W.regionDK tab_ok 0 follows_mixed (by kernel_rfl) (by decide) ?_
                refine runk_exec (by simp only [exa, beq_self_eq_true, ByteArray.size, Nat.reduceAdd, Nat.reduceLeDiff, Nat.reduceEqDiff, Nat.reduceMul, Int.reduceToNat, reduceIte, Int.reduceLE, Int.reduceNeg, Bool.not_true, hpos, hws, at_map hy, cE, List.length_map, hil, hi0, Int.toNat_natCast, and_self, k1, k2, decide_true, decide_false]; rfl) ?_
                refine W.cond rfl (fun h => absurd h (by simp)) (fun _ => ?_)
                repeat (first | refine W.seq ?_ | refine W.block ?_ | refine W.skip ?_ | refine W.exit ?_ | refine W.region tab_ok 0 (by decide) (exec_run (by simp only [exa, beq_self_eq_true, ByteArray.size, Nat.reduceAdd, Nat.reduceLeDiff, Nat.reduceEqDiff, Nat.reduceMul, Int.reduceToNat, reduceIte, Int.reduceLE, Int.reduceNeg]; rfl)) ?_)
                refine ⟨i + 1 + 1, hlt, by omega, ?_⟩
                refine le_mk ?sle ?mle ?swf ?mwf (kept_not hkeep) (by rfl)
                case swf => repeat (first | exact swf_top _ | refine swf_upd ?_ (by simp [A.ids, upd_app, wrap_succ (show i + 1 + 1 < 9223372036854775808 by omega)]))
                case mwf => repeat (first | exact mwf_nil _ | refine mwf_upd ?_ (by simp [A.ids, O.ids, upd_app, wrap_succ (show i + 1 + 1 < 9223372036854775808 by omega)]))
                case mle => repeat (first | exact mle_nil _ | exact mle_refl _ | refine mle_upd ?_ (by first | rfl | (simp only [upd_app, killM_app, O.kill, A.kill, Nat.reduceEqDiff, reduceIte, Option.map_some, Option.map_none, List.map_cons, List.map_nil, wrap_succ (show i + 1 + 1 < 9223372036854775808 by omega)]; done)))
                case sle => repeat (first | exact sle_top _ | exact sle_refl _ | refine sle_upd ?_ (by first | rfl | (simp only [upd_app, killS_app, A.kill, entry_zero, entry_succ, Nat.reduceEqDiff, reduceIte, wrap_succ (show i + 1 + 1 < 9223372036854775808 by omega)]; done)))
      · intro hge
        simp only [decide_eq_false_iff_not, Int.ofNat_lt] at hge
        repeat (first | refine W.seq ?_ | refine W.block ?_ | refine W.skip ?_ | refine W.exit ?_ | refine W.region tab_ok 0 (by decide) (exec_run (by simp only [exa, beq_self_eq_true, ByteArray.size, Nat.reduceAdd, Nat.reduceLeDiff, Nat.reduceEqDiff, Nat.reduceMul, Int.reduceToNat, reduceIte, Int.reduceLE, Int.reduceNeg]; rfl)) ?_)
        refine W.ret ⟨.inr rfl, by rfl, ?_⟩
        simp only [Tryd.f6, resA, resOne, toT, fin, exa, beq_self_eq_true, ByteArray.size, Nat.reduceAdd, Nat.reduceLeDiff, Nat.reduceEqDiff, Nat.reduceMul, Int.reduceToNat, reduceIte, Int.reduceLE, Int.reduceNeg]
end V
end Go.Proofs.YtcldeoolglhdoaaDoor
end
section
set_option linter.unusedVariables false
set_option linter.unusedSimpArgs false
namespace Go.Proofs.YtcldeoolglhdoaaDoor
open Go.ChangeShapes Go.WideShapes Go.ChangeAt Go.RowKit
open Go.ChangeMaps (open_string shut_string)
open V
theorem defsFit_met (os : Os) : laidMet Tryd.prog Rows.defsFitUptoRow.laid ((laidWorld os).forCall (fun _ _ => 0) ⟨#[], #[.agg #[.string ⟨#[]⟩, .string ⟨#[]⟩, .int .i64 0, .int .i64 0, .slice none 0 0]], []⟩).memory :=
  laidMet_of_run' 8 (by kernel_rfl) (by kernel_rfl)
theorem defsFit_reads (os : Os) {H : Type} (enc : TypeId × Value → H) : ∃ places, DataW.whole enc Tryd.prog ((laidWorld os).forCall (fun _ _ => 0) ⟨#[], #[.agg #[.string ⟨#[]⟩, .string ⟨#[]⟩, .int .i64 0, .int .i64 0, .slice none 0 0]], []⟩).memory Tryd.f6.params.toList Rows.defsFitSpec.vars false (#[.agg #[.string ⟨#[]⟩, .string ⟨#[]⟩, .int .i64 0, .int .i64 0, .slice none 0 0]] : Array Value).toList 8 = some ([.agg [.lit (.string []), .lit (.string []), .lit (.int .i64 0), .lit (.int .i64 0), .nil]], [], places) :=
  ⟨[], by kernel_rfl⟩
set_option maxRecDepth 100000 in
set_option maxHeartbeats 4000000 in
theorem defsFit_lifted (os : Os) (started : os.Started) (H : Type) (enc : TypeId × Value → H) (F : Stop.Interp) :
    ReturnsInHanded {} Tryd.checked os 6 .any ((Rows.OpenSpec.upto Rows.defsFitSpec).preRow enc Tryd.prog Tryd.f6 Rows.defsFitUptoRow.domain false Rows.defsFitUptoRow.laid) (((Rows.OpenSpec.upto Rows.defsFitSpec).at F).post enc Tryd.prog Tryd.f6 false true false false) := by
  obtain ⟨places, hx⟩ := defsFit_reads os enc
  refine returnsInHanded_of_row (C := Tryd.checked) (s := Rows.OpenSpec.upto Rows.defsFitSpec) own started (by kernel_rfl) Tryd.func6
    (witness_row_at (enc := enc) (C := Tryd.checked) false (laidWorld os) #[.agg #[.string ⟨#[]⟩, .string ⟨#[]⟩, .int .i64 0, .int .i64 0, .slice none 0 0]] rfl (by kernel_rfl) (by kernel_rfl) (by kernel_rfl)
      (OpenSpec.preRow_of_cond 8 hx (by kernel_rfl) (fun k hk => by cases hk; rfl) (by kernel_rfl) (defsFit_met os))) ?_
  intro W base args ds gs before hval0 hW _ hcond hsz0 hL hsh _
  have hbulk : Rows.uptoBulkAll (ds ++ gs) ≤ 1048576 := of_decide_eq_true (hcond _ rfl)
  clear hcond
  have hval : ∀ (j : Nat) t v, Tryd.f6.params[j]? = some t → args[j]? = some v → Value.okWide Tryd.prog W .any base t v := hval0
  have hW' := hW
  obtain ⟨p, q, hA0, hV, rfl, hfz, hnd⟩ := hW
  have hA : DataW.TrodAll enc Tryd.prog W 0 (fun _ => true) true Tryd.f6.params.toList args.toList ds p := hA0
  have hsz : ∀ n ∈ DataW.weightsEach Tryd.prog (Tryd.f6.params.toList ++ Rows.defsFitSpec.plain.varTypes Tryd.prog) (ds ++ gs), n ≤ reachBytes := fun n hn => of_decide_eq_true (List.all_eq_true.1 hsz0 n hn)
  rw [Tryd.params6] at hA hval hsz
  clear hsz0
  obtain ⟨v0, vs0, d0, ds0, p0, q0, hargs, rfl, rfl, h0, r0⟩ := trodAll_cons hA
  obtain ⟨rfl, rfl, rfl⟩ := trodAll_nil r0
  obtain rfl : args = #[v0] := by cases args; simp_all
  obtain ⟨rfl, rfl⟩ := trodVars_none hV
  clear hA0 hval0
  simp only [List.append_nil] at hW'
  have k0 := h0
  have lt0 : ∀ x ∈ p0, x.block < W.heap.size := by obtain ⟨m, hm⟩ := k0; exact DataW.trod_lt m _ _ _ hm
  have fit0 : Fits Tryd.prog 24 d0 := fun n hn => hsz n (DataW.weights_mem_each (j := 0) rfl rfl n hn)
  obtain ⟨cs0, rfl, -⟩ := okWide_struct Tryd.underlying24 (hval 0 24 v0 rfl rfl)
  obtain ⟨rn0, h0⟩ := h0
  obtain ⟨l0, R0⟩ := read_proc fit0 h0
  replace R0 : RProc W (· < W.heap.size) cs0.toList l0 := by simpa [Value.cells] using R0
  have hs0 := Nat.le_trans (args_bulk R0 h0) (Nat.le_trans (bulk_mem (by simp)) hbulk)
  refine (cok_true (vals := [_]) (lawFit_ok l0 (proc_len R0) hs0 _) (table hL) (fun B => ⟨rv_proc R0, trivial⟩)).mono fun e W' ⟨he, bel⟩ => ?_
  subst he
  exact ⟨_, rfl, _, _, _, [], _, [], hW', trodAll_mk1 (shut_bool Tryd.underlying4 _), trodAll_cons_mk (Below.trod laidOut (by kernel_rfl) (of_decide_eq_true (by kernel_rfl)) k0 bel lt0) trodAll_mk0, rfl, bel.frame _, fun h => by cases h⟩
theorem defsFit_holds : Rows.DefsFitUptoSaid :=
  OpenClaim.holds_of_cond 6 Tryd.f6 rfl rfl rfl rfl rfl rfl rfl ⟨rfl, rfl, rfl, rfl, rfl⟩ rfl rfl rfl rfl rfl (by kernel_rfl) Tryd.func6 (by kernel_rfl)
    (of_decide_eq_true (by kernel_rfl)) (by unfold Func.isWrapper; first | (rw [if_pos (by decide +kernel)]; kernel_rfl) | (rw [if_neg (by decide +kernel)]; exact ⟨rfl, rfl⟩))
    (fun os started H enc _ F => by rw [OpenClaim.pre_eq_preRow]; exact defsFit_lifted os started H enc F)
theorem defsFit_plain (f : FuncId) (fn : Func) (hf : Tryd.pinned.checked.prog.funcNamed "mordant/mordantlaw18.DefsFit" = some f) (hfn : Tryd.pinned.checked.prog.funcs[f]? = some fn) :
    false = Tryd.pinned.checked.prog.looks [] ∧ ∀ (j : Nat) t, fn.params[j]? = some t → Tryd.pinned.checked.prog.wantsStandIn t = false := by
  obtain rfl : f = 6 := Option.some.inj ((show Tryd.prog.funcNamed "mordant/mordantlaw18.DefsFit" = some 6 by kernel_rfl).symm.trans hf) |>.symm
  obtain rfl : fn = Tryd.f6 := (Option.some.inj (Tryd.func6.symm.trans hfn)).symm
  refine ⟨by kernel_rfl, fun j t ht => ?_⟩
  have hall : Tryd.f6.params.all (fun t => !Tryd.prog.wantsStandIn t) = true := by kernel_rfl
  have := Array.all_eq_true'.1 hall t (Array.mem_of_getElem? ht)
  have h2 : Tryd.prog.wantsStandIn t = false := by simpa using this
  exact h2
theorem defsFit_card : Rows.DefsFitUptoCardSaid :=
  Claim7.holds_tied_plain_at .later [] _ _ _ _ defsFit_holds (fun _ h => by cases h) (by kernel_rfl) (fun _ h => by cases h) defsFitUpto_row_tie rfl ⟨rfl, rfl⟩ (by kernel_rfl) rfl defsFit_plain (by kernel_rfl)
end Go.Proofs.YtcldeoolglhdoaaDoor
end
section
set_option linter.unusedVariables false
set_option linter.unusedSimpArgs false
namespace Go.Proofs.YtcldeoolglhdoaaDoor
namespace V
open Go.RowKit G C17 D18
def entsQ (L : List (Int × Int)) : List (A1 × A1) := L.map fun e => (.agg (cE e), .c (.bool true))
theorem agg_ids (xs : List C) : (A1.agg xs).ids = [] := rfl
theorem entsQ_flat (L : List (Int × Int)) : (entsQ L).flatMap (fun p => p.1.ids ++ p.2.ids) = [] := by
  induction L with
  | nil => rfl
  | cons z l ih => rw [entsQ, List.map_cons, List.flatMap_cons]; exact ih
theorem entsQ_push (L : List (Int × Int)) (z : Int × Int) : entsQ (L ++ [z]) = entsQ L ++ [(.agg (cE z), .c (.bool true))] := by simp [entsQ]
theorem keyE_edge (x y : Int × Int) : keyEq (.agg (cE x)) (.agg (cE y)) = some (decide (x = y)) := by
  obtain ⟨a, b⟩ := x
  obtain ⟨c, d⟩ := y
  simp [keyEq, eqC0s, eqC0, cE, Prod.mk.injEq]
theorem findQ_none {z : Int × Int} : ∀ {L : List (Int × Int)}, z ∉ L → findE (.agg (cE z)) (entsQ L) = some none
  | [], _ => rfl
  | y :: l, h => by
    simp only [List.mem_cons, not_or] at h
    have ih := findQ_none (L := l) h.2
    unfold entsQ at ih ⊢
    simp only [List.map_cons, findE, keyE_edge, decide_eq_false h.1, ih]
theorem findQ_some {z : Int × Int} : ∀ {L : List (Int × Int)}, z ∈ L → ∃ q, findE (.agg (cE z)) (entsQ L) = some (some (q, .c (.bool true))) ∧ L[q]? = some z
  | [], h => by cases h
  | y :: l, h => by
    by_cases e : z = y
    · subst e; exact ⟨0, by simp [entsQ, findE, keyE_edge], rfl⟩
    · obtain ⟨q, ih, hq⟩ := findQ_some (L := l) ((List.mem_cons.1 h).resolve_left e)
      refine ⟨q + 1, ?_, by simpa using hq⟩
      unfold entsQ at ih ⊢
      simp only [List.map_cons, findE, keyE_edge, decide_eq_false e, ih]
theorem c_ids (x : C) : (A1.c x).ids = [] := rfl
def rowZ (n : Nat) (f : Nat → Int) : List (List C) := (List.range n).map fun i => [.int .i64 (f i)]
theorem rowZ_len (n : Nat) (f : Nat → Int) : (rowZ n f).length = n := by simp [rowZ]
theorem rowZ_at {n k : Nat} {f : Nat → Int} (h : k < n) : (rowZ n f)[k]? = some [.int .i64 (f k)] := by simp [rowZ, h]
theorem rowZ_set {n k : Nat} {f : Nat → Int} {v : Int} : (rowZ n f).set k [.int .i64 v] = rowZ n (fun j => if j = k then v else f j) := by
  refine List.ext_getElem? fun i => ?_
  rw [List.getElem?_set, rowZ_len]
  by_cases hi : i < n
  · rw [rowZ_at hi, rowZ_at hi]
    by_cases e : k = i
    · subst e; simp [hi]
    · rw [if_neg e]; simp [Ne.symm e]
  · have h1 : (rowZ n f)[i]? = none := by rw [List.getElem?_eq_none]; rw [rowZ_len]; omega
    have h2 : (rowZ n (fun j => if j = k then v else f j))[i]? = none := by rw [List.getElem?_eq_none]; rw [rowZ_len]; omega
    rw [h1, h2]
    split
    · rw [if_neg (by omega)]
    · rfl
theorem rowZ_congr {n : Nat} {f g : Nat → Int} (h : ∀ i, i < n → f i = g i) : rowZ n f = rowZ n g := by
  refine List.map_congr_left fun i hi => ?_
  rw [h i (List.mem_range.1 hi)]
theorem rep_rowZ (n : Nat) : List.replicate n [C.int .i64 0] = rowZ n (fun _ => 0) := by
  refine List.ext_getElem? fun i => ?_
  by_cases hi : i < n
  · rw [rowZ_at hi]; simp [hi]
  · rw [List.getElem?_eq_none (by simpa using hi), List.getElem?_eq_none (by rw [rowZ_len]; omega)]
theorem edD_new {code : List Ins} {rg i : Nat} {z : Int × Int} (h : (edD code rg)[i]? = some z) : z ∉ (edD code rg).take i := fun hm => by
  obtain ⟨h2, e2⟩ := List.getElem?_eq_some_iff.1 h
  obtain ⟨k, hk, e⟩ := List.getElem_of_mem hm
  rw [List.length_take] at hk
  rw [List.getElem_take] at e
  have := List.pairwise_iff_getElem.1 (edD_rising (code := code) (R := rg)) k i (by omega) h2 (by omega)
  rw [e, e2] at this
  unfold ltZ at this
  omega
structure MI (code : List Ins) (rg : Nat) (la : Nat → Nat) (i : Nat) : Prop where
  lt : i < code.length
  la : ∀ r, r < rg → rgD code rg (la r) = some r ∧ Cm code rg (la r) i
theorem MI.start {code : List Ins} {rg : Nat} (h : 1 ≤ code.length) : MI code rg (fun r => rg - 1 - r) 0 := ⟨h, fun r hr => ⟨by unfold rgD; rw [if_pos (by omega)]; congr 1; omega, .entry (by omega)⟩⟩
theorem MI.edge {code : List Ins} {rg : Nat} {la : Nat → Nat} {i : Nat} (ok : okD code rg = true) (h : MI code rg la i) {x : Ins} (hx : code[i]? = some x) {r : Nat} (hr : r < rg) (hu : (r : Int) ∈ usI x) : (((la r : Nat) : Int) - rg, (i : Int)) ∈ edD code rg := by
  obtain ⟨h1, h2⟩ := h.la r hr
  refine mem_edD.2 ⟨la r, i, rfl, rfl, (rgD_lt ok h1).2, h.lt, r, h1, ?_, h2⟩
  unfold usN
  rw [hx]
  exact List.mem_map.2 ⟨_, hu, by simp⟩
theorem MI.step {code : List Ins} {rg : Nat} {la : Nat → Nat} {i k : Nat} (ok : okD code rg = true) (h : MI code rg la i) (hk : k ∈ nxN code i) : MI code rg (fun r => if dfN code i = some r then rg + i else la r) k :=
  ⟨nxN_lt ok h.lt hk, fun r hr => last_step h.la hk r hr⟩
set_option maxHeartbeats 16000000 in
theorem lawMet_ok (p : Prc) (ch : List Bool) (hpl : p.code.length ≤ 1000000000000000) (hch : ch.length ≤ 1000000000000000) (hsum : (p.code.map fun x => x.args.length).sum ≤ 1048576) (m : Mem) : COk Tryd.prog 5 [.agg (cP p), .c (.sl (ch.map fun b => [C.bool b]))] m (.c (.bool true)) := by
  have hu := fun m => usesP_ok p hpl hsum m
  cases hok : okD p.code p.regs with
  | false =>
    have e : usesA p = [(false, [.sl []]), (false, [.int .i64 110])] := by unfold usesA; rw [if_neg (by simp [hok])]
    rw [e] at hu
    obtain ⟨cls, name, params, regs, code⟩ := p
    have hcp : cP ⟨cls, name, params, regs, code⟩ = [.str cls, .str name, .int .i64 params, .int .i64 regs, .sl (code.map cIns)] := rfl
    refine (ok_pure tab_ok Tryd.func5 (by kernel_rfl) rfl rfl (by rfl) (by rfl) (by rfl) (fun R hkeep => ?_) m)
    (repeat (first | refine W.seq ?_ | refine W.block ?_ | refine W.skip ?_ | refine W.exit ?_))
    refine W.region tab_ok 0 (by decide) (exec_run (by simp only [exa, beq_self_eq_true, ByteArray.size, Nat.reduceAdd, Nat.reduceLeDiff, Nat.reduceEqDiff, Nat.reduceMul, Int.reduceToNat, reduceIte, Int.reduceLE, Int.reduceNeg, hcp, List.map_cons, List.map_nil]; rfl)) ?_
    (repeat (first | refine W.seq ?_ | refine W.block ?_ | refine W.skip ?_ | refine W.exit ?_))
    refine W.regionK tab_ok 0 (by decide) ?_
    refine runk_split 0 (by simp only [exa, beq_self_eq_true, ByteArray.size, Nat.reduceAdd, Nat.reduceLeDiff, Nat.reduceEqDiff, Nat.reduceMul, Int.reduceToNat, reduceIte, Int.reduceLE, Int.reduceNeg]; rfl) ?_
    refine runk_call rfl rfl rfl rfl rfl (by simp) cvs_nil (live_ok _) ?_
    refine runk_exec (by simp only [exa, beq_self_eq_true, ByteArray.size, Nat.reduceAdd, Nat.reduceLeDiff, Nat.reduceEqDiff, Nat.reduceMul, Int.reduceToNat, reduceIte, Int.reduceLE, Int.reduceNeg]; rfl) ?_
    (repeat (first | refine W.seq ?_ | refine W.block ?_ | refine W.skip ?_ | refine W.exit ?_))
    refine W.regionK tab_ok 0 (by decide) ?_
    refine runk_split 1 (by simp only [exa, beq_self_eq_true, ByteArray.size, Nat.reduceAdd, Nat.reduceLeDiff, Nat.reduceEqDiff, Nat.reduceMul, Int.reduceToNat, reduceIte, Int.reduceLE, Int.reduceNeg, hcp, List.map_cons, List.map_nil]; rfl) ?_
    refine runk_call rfl rfl rfl rfl rfl (by simp) (cvs_cons cv_refl cvs_nil) (hu _) ?_
    refine runk_exec (by simp only [exa, beq_self_eq_true, ByteArray.size, Nat.reduceAdd, Nat.reduceLeDiff, Nat.reduceEqDiff, Nat.reduceMul, Int.reduceToNat, reduceIte, Int.reduceLE, Int.reduceNeg]; rfl) ?_
    repeat (first | refine W.seq ?_ | refine W.block ?_ | refine W.skip ?_ | refine W.exit ?_ | refine W.region tab_ok 0 (by decide) (exec_run (by simp only [exa, beq_self_eq_true, ByteArray.size, Nat.reduceAdd, Nat.reduceLeDiff, Nat.reduceEqDiff, Nat.reduceMul, Int.reduceToNat, reduceIte, Int.reduceLE, Int.reduceNeg, Int.reduceEq, decide_false, Bool.not_false, not_false_eq_true, decide_true]; rfl)) ?_)
    refine W.cond rfl (fun _ => ?_) (fun h => absurd h (by simp))
    repeat (first | refine W.seq ?_ | refine W.block ?_ | refine W.skip ?_ | refine W.exit ?_ | refine W.region tab_ok 0 (by decide) (exec_run (by simp only [exa, beq_self_eq_true, ByteArray.size, Nat.reduceAdd, Nat.reduceLeDiff, Nat.reduceEqDiff, Nat.reduceMul, Int.reduceToNat, reduceIte, Int.reduceLE, Int.reduceNeg]; rfl)) ?_)
    refine W.ret ⟨.inr rfl, by rfl, ?_⟩
    simp only [Tryd.f5, resA, resOne, toT, fin, exa, beq_self_eq_true, ByteArray.size, Nat.reduceAdd, Nat.reduceLeDiff, Nat.reduceEqDiff, Nat.reduceMul, Int.reduceToNat, reduceIte, Int.reduceLE, Int.reduceNeg]
  | true =>
    have hl := okD_len hok
    obtain ⟨rg, hrg⟩ := Int.eq_ofNat_of_zero_le hl.2.2.1
    have e : usesA p = [(false, [.sl ((edD p.code rg).map cE)]), (false, [.int .i64 0])] := by unfold usesA; rw [if_pos hok, hrg]; rfl
    rw [e] at hu
    have hok' : okD p.code rg = true := by rw [← hrg]; exact hok
    have hargs : ∀ x ∈ p.code, x.args.length ≤ 1048576 := fun x hx => Nat.le_trans (args_le hx) hsum
    have hLn : (edD p.code rg).length ≤ 24000000 := by
      refine Nat.le_trans (edD_len _ _) ?_
      exact Nat.le_trans (Nat.mul_le_mul (show _ ≤ 12000 by omega) (show _ ≤ 2000 by omega)) (by decide)
    have hnx := fun i (hi : i < p.code.length) M hM => refNextE_ok p i hpl hi M 60 hM
    obtain ⟨cls, name, params, regs, code⟩ := p
    simp only at hrg hok' hl hLn hargs hnx ⊢
    subst hrg
    have hcp : cP ⟨cls, name, params, rg, code⟩ = [.str cls, .str name, .int .i64 params, .int .i64 rg, .sl (code.map cIns)] := rfl
    have hm1 : rg * 8 ≤ 140737488355328 := by omega
    have hm2 : ((rg : Nat) : Int) ≤ 9223372036854775807 := by omega
    have hn0 : (0 : Int) ≤ ((rg : Nat) : Int) := by omega
    refine (ok_pure tab_ok Tryd.func5 (by kernel_rfl) rfl rfl (by rfl) (by rfl) (by rfl) (fun R hkeep => ?_) m)
    (repeat (first | refine W.seq ?_ | refine W.block ?_ | refine W.skip ?_ | refine W.exit ?_))
    refine W.region tab_ok 0 (by decide) (exec_run (by simp only [exa, beq_self_eq_true, ByteArray.size, Nat.reduceAdd, Nat.reduceLeDiff, Nat.reduceEqDiff, Nat.reduceMul, Int.reduceToNat, reduceIte, Int.reduceLE, Int.reduceNeg, hcp, List.map_cons, List.map_nil]; rfl)) ?_
    (repeat (first | refine W.seq ?_ | refine W.block ?_ | refine W.skip ?_ | refine W.exit ?_))
    refine W.regionK tab_ok 0 (by decide) ?_
    refine runk_split 0 (by simp only [exa, beq_self_eq_true, ByteArray.size, Nat.reduceAdd, Nat.reduceLeDiff, Nat.reduceEqDiff, Nat.reduceMul, Int.reduceToNat, reduceIte, Int.reduceLE, Int.reduceNeg]; rfl) ?_
    refine runk_call rfl rfl rfl rfl rfl (by simp) cvs_nil (live_ok _) ?_
    refine runk_exec (by simp only [exa, beq_self_eq_true, ByteArray.size, Nat.reduceAdd, Nat.reduceLeDiff, Nat.reduceEqDiff, Nat.reduceMul, Int.reduceToNat, reduceIte, Int.reduceLE, Int.reduceNeg]; rfl) ?_
    (repeat (first | refine W.seq ?_ | refine W.block ?_ | refine W.skip ?_ | refine W.exit ?_))
    refine W.regionK tab_ok 0 (by decide) ?_
    refine runk_split 1 (by simp only [exa, beq_self_eq_true, ByteArray.size, Nat.reduceAdd, Nat.reduceLeDiff, Nat.reduceEqDiff, Nat.reduceMul, Int.reduceToNat, reduceIte, Int.reduceLE, Int.reduceNeg, hcp, List.map_cons, List.map_nil]; rfl) ?_
    refine runk_call rfl rfl rfl rfl rfl (by simp) (cvs_cons cv_refl cvs_nil) (hu _) ?_
    refine runk_exec (by simp only [exa, beq_self_eq_true, ByteArray.size, Nat.reduceAdd, Nat.reduceLeDiff, Nat.reduceEqDiff, Nat.reduceMul, Int.reduceToNat, reduceIte, Int.reduceLE, Int.reduceNeg]; rfl) ?_
    rcases eqTF ((300 : Int) < (code.length : Int)) with hA | hA
    · skip
      repeat (first | refine W.seq ?_ | refine W.block ?_ | refine W.skip ?_ | refine W.exit ?_ | refine W.region tab_ok 0 (by decide) (exec_run (by simp only [exa, beq_self_eq_true, ByteArray.size, Nat.reduceAdd, Nat.reduceLeDiff, Nat.reduceEqDiff, Nat.reduceMul, Int.reduceToNat, reduceIte, Int.reduceLE, Int.reduceNeg, eq_self, decide_true, Bool.not_true, not_true_eq_false, decide_false, List.length_map, hA]; rfl)) ?_)
      refine W.cond rfl (fun _ => ?_) (fun h => absurd h (by simp))
      repeat (first | refine W.seq ?_ | refine W.block ?_ | refine W.skip ?_ | refine W.exit ?_ | refine W.region tab_ok 0 (by decide) (exec_run (by simp only [exa, beq_self_eq_true, ByteArray.size, Nat.reduceAdd, Nat.reduceLeDiff, Nat.reduceEqDiff, Nat.reduceMul, Int.reduceToNat, reduceIte, Int.reduceLE, Int.reduceNeg]; rfl)) ?_)
      refine W.ret ⟨.inr rfl, by rfl, ?_⟩
      simp only [Tryd.f5, resA, resOne, toT, fin, exa, beq_self_eq_true, ByteArray.size, Nat.reduceAdd, Nat.reduceLeDiff, Nat.reduceEqDiff, Nat.reduceMul, Int.reduceToNat, reduceIte, Int.reduceLE, Int.reduceNeg]
    rcases eqTF ((300 : Int) < (rg : Int)) with hB | hB
    · skip
      repeat (first | refine W.seq ?_ | refine W.block ?_ | refine W.skip ?_ | refine W.exit ?_ | refine W.region tab_ok 0 (by decide) (exec_run (by simp only [exa, beq_self_eq_true, ByteArray.size, Nat.reduceAdd, Nat.reduceLeDiff, Nat.reduceEqDiff, Nat.reduceMul, Int.reduceToNat, reduceIte, Int.reduceLE, Int.reduceNeg, eq_self, decide_true, Bool.not_true, not_true_eq_false, decide_false, List.length_map, hA, hB]; rfl)) ?_)
      refine W.cond rfl (fun _ => ?_) (fun h => absurd h (by simp))
      repeat (first | refine W.seq ?_ | refine W.block ?_ | refine W.skip ?_ | refine W.exit ?_ | refine W.region tab_ok 0 (by decide) (exec_run (by simp only [exa, beq_self_eq_true, ByteArray.size, Nat.reduceAdd, Nat.reduceLeDiff, Nat.reduceEqDiff, Nat.reduceMul, Int.reduceToNat, reduceIte, Int.reduceLE, Int.reduceNeg]; rfl)) ?_)
      refine W.ret ⟨.inr rfl, by rfl, ?_⟩
      simp only [Tryd.f5, resA, resOne, toT, fin, exa, beq_self_eq_true, ByteArray.size, Nat.reduceAdd, Nat.reduceLeDiff, Nat.reduceEqDiff, Nat.reduceMul, Int.reduceToNat, reduceIte, Int.reduceLE, Int.reduceNeg]
    repeat (first | refine W.seq ?_ | refine W.block ?_ | refine W.skip ?_ | refine W.exit ?_ | refine W.region tab_ok 0 (by decide) (exec_run (by simp only [exa, beq_self_eq_true, ByteArray.size, Nat.reduceAdd, Nat.reduceLeDiff, Nat.reduceEqDiff, Nat.reduceMul, Int.reduceToNat, reduceIte, Int.reduceLE, Int.reduceNeg, eq_self, decide_true, Bool.not_true, not_true_eq_false, decide_false, List.length_map, hA, hB]; rfl)) ?_)
    refine W.cond rfl (fun h => absurd h (by simp)) (fun _ => ?_)
    repeat (first | refine W.seq ?_ | refine W.block ?_ | refine W.skip ?_ | refine W.exit ?_ | refine W.region tab_ok 0 (by decide) (exec_run (by simp only [exa, beq_self_eq_true, ByteArray.size, Nat.reduceAdd, Nat.reduceLeDiff, Nat.reduceEqDiff, Nat.reduceMul, Int.reduceToNat, reduceIte, Int.reduceLE, Int.reduceNeg, List.length_map]; rfl)) ?_)
    refine W.loop (ι := Nat) (fun i => ⟨upd (upd (upd (upd (upd (upd (upd (fun _ => .top) 1 (.c (.sl (ch.map fun b => [C.bool b])))) 2 (.ptr 2 0)) 5 (.c (.bool true))) 8 (.map 39)) 40 (.c (.sl ((edD code rg).map cE)))) 41 (.c (.int .i64 (edD code rg).length))) 42 (.c (.int .i64 i)), upd (upd Mem.nil 2 (some (.box 24 [.c (.str cls), .c (.str name), .c (.int .i64 params), .c (.int .i64 rg), .c (.sl (code.map cIns))]))) 39 (some (.map (entsQ ((edD code rg).take i))))⟩) (fun i => i ≤ (edD code rg).length) (fun i => (edD code rg).length - i) 0 ?start (Nat.zero_le _) ?round
    case start =>
      refine le_mk ?sle ?mle ?swf ?mwf (kept_not hkeep) (by rfl)
      case swf => repeat (first | exact swf_top _ | refine swf_upd ?_ (by simp [A.ids, upd_app, entsQ, List.take_zero, List.map_nil]))
      case mwf => repeat (first | exact mwf_nil _ | refine mwf_upd ?_ (by simp [A.ids, O.ids, upd_app, entsQ, List.take_zero, List.map_nil]))
      case mle => repeat (first | exact mle_nil _ | exact mle_refl _ | refine mle_upd ?_ (by first | rfl | (simp only [upd_app, killM_app, O.kill, A.kill, Nat.reduceEqDiff, reduceIte, Option.map_some, Option.map_none, List.map_cons, List.map_nil, entsQ, List.take_zero, List.map_nil]; done)))
      case sle => repeat (first | exact sle_top _ | exact sle_refl _ | refine sle_upd ?_ (by first | rfl | (simp only [upd_app, killS_app, A.kill, entry_zero, entry_succ, Nat.reduceEqDiff, reduceIte, entsQ, List.take_zero, List.map_nil]; done)))
    case round =>
      intro i hi
      repeat (first | refine W.seq ?_ | refine W.block ?_ | refine W.skip ?_ | refine W.exit ?_ | refine W.region tab_ok 0 (by decide) (exec_run (by simp only [exa, beq_self_eq_true, ByteArray.size, Nat.reduceAdd, Nat.reduceLeDiff, Nat.reduceEqDiff, Nat.reduceMul, Int.reduceToNat, reduceIte, Int.reduceLE, Int.reduceNeg]; rfl)) ?_)
      refine W.cond rfl ?_ ?_
      · intro hlt
        simp only [decide_eq_true_eq, Int.ofNat_lt] at hlt
        obtain ⟨z, hz⟩ : ∃ z, (edD code rg)[i]? = some z := ⟨_, List.getElem?_eq_getElem hlt⟩
        have hfind := findQ_none (edD_new hz)
        have htk : (edD code rg).take (i + 1) = (edD code rg).take i ++ [z] := by rw [List.take_add_one, hz]; rfl
        have hcz : cE z = [.int .i64 z.1, .int .i64 z.2] := rfl
        rw [hcz] at hfind
        (repeat (first | refine W.seq ?_ | refine W.block ?_ | refine W.skip ?_ | refine W.exit ?_))
        refine W.region tab_ok 0 (by decide) (exec_run (by simp only [exa, beq_self_eq_true, ByteArray.size, Nat.reduceAdd, Nat.reduceLeDiff, Nat.reduceEqDiff, Nat.reduceMul, Int.reduceToNat, reduceIte, Int.reduceLE, Int.reduceNeg, at_map hz, hcz]; rfl)) ?_
        (repeat (first | refine W.seq ?_ | refine W.block ?_ | refine W.skip ?_ | refine W.exit ?_))
        refine W.regionK tab_ok 0 (by decide) ?_
        refine runk_split 2 (by simp only [exa, beq_self_eq_true, ByteArray.size, Nat.reduceAdd, Nat.reduceLeDiff, Nat.reduceEqDiff, Nat.reduceMul, Int.reduceToNat, reduceIte, Int.reduceLE, Int.reduceNeg]; rfl) ?_
        refine runk_put tab_ok (ents := (entsQ ((edD code rg).take i))) rfl (.inl rfl) rfl rfl (by first | rfl | (simp only [exa, beq_self_eq_true, ByteArray.size, Nat.reduceAdd, Nat.reduceLeDiff, Nat.reduceEqDiff, Nat.reduceMul, Int.reduceToNat, reduceIte, Int.reduceLE, Int.reduceNeg]; done)) rfl (by first | rfl | (simp only [exa, beq_self_eq_true, ByteArray.size, Nat.reduceAdd, Nat.reduceLeDiff, Nat.reduceEqDiff, Nat.reduceMul, Int.reduceToNat, reduceIte, Int.reduceLE, Int.reduceNeg]; rfl)) (by rfl) (by first | rfl | (simp only [exa, beq_self_eq_true, ByteArray.size, Nat.reduceAdd, Nat.reduceLeDiff, Nat.reduceEqDiff, Nat.reduceMul, Int.reduceToNat, reduceIte, Int.reduceLE, Int.reduceNeg]; rfl)) hfind ?_
        refine runk_exec (by simp only [exa, beq_self_eq_true, ByteArray.size, Nat.reduceAdd, Nat.reduceLeDiff, Nat.reduceEqDiff, Nat.reduceMul, Int.reduceToNat, reduceIte, Int.reduceLE, Int.reduceNeg]; rfl) ?_
        repeat (first | refine W.seq ?_ | refine W.block ?_ | refine W.skip ?_ | refine W.exit ?_ | refine W.region tab_ok 0 (by decide) (exec_run (by simp only [exa, beq_self_eq_true, ByteArray.size, Nat.reduceAdd, Nat.reduceLeDiff, Nat.reduceEqDiff, Nat.reduceMul, Int.reduceToNat, reduceIte, Int.reduceLE, Int.reduceNeg]; rfl)) ?_)
        refine ⟨i + 1, hlt, by omega, ?_⟩
        rw [htk, entsQ_push, hcz]
        refine le_mk ?sle ?mle ?swf ?mwf (kept_not hkeep) (by rfl)
        case swf => repeat (first | exact swf_top _ | refine swf_upd ?_ (by simp [A.ids, upd_app, entsQ_flat, putE, List.flatMap_append, c_ids, agg_ids, wrap_succ (show i + 1 < 9223372036854775808 by omega)]))
        case mwf => repeat (first | exact mwf_nil _ | refine mwf_upd ?_ (by simp [A.ids, O.ids, upd_app, entsQ_flat, putE, List.flatMap_append, c_ids, agg_ids, wrap_succ (show i + 1 < 9223372036854775808 by omega)]))
        case mle => repeat (first | exact mle_nil _ | exact mle_refl _ | refine mle_upd ?_ (by first | rfl | (simp only [upd_app, killM_app, O.kill, A.kill, Nat.reduceEqDiff, reduceIte, Option.map_some, Option.map_none, List.map_cons, List.map_nil, entsQ_flat, putE, List.flatMap_append, c_ids, agg_ids, wrap_succ (show i + 1 < 9223372036854775808 by omega)]; done)))
        case sle => repeat (first | exact sle_top _ | exact sle_refl _ | refine sle_upd ?_ (by first | rfl | (simp only [upd_app, killS_app, A.kill, entry_zero, entry_succ, Nat.reduceEqDiff, reduceIte, entsQ_flat, putE, List.flatMap_append, c_ids, agg_ids, wrap_succ (show i + 1 < 9223372036854775808 by omega)]; done)))
      · intro hge
        simp only [decide_eq_false_iff_not, Int.ofNat_lt] at hge
        obtain rfl : i = (edD code rg).length := by omega
        rw [List.take_length]
        repeat (first | refine W.seq ?_ | refine W.block ?_ | refine W.skip ?_ | refine W.exit ?_ | refine W.region tab_ok 0 (by decide) (exec_run (by simp only [exa, beq_self_eq_true, ByteArray.size, Nat.reduceAdd, Nat.reduceLeDiff, Nat.reduceEqDiff, Nat.reduceMul, Int.reduceToNat, reduceIte, Int.reduceLE, Int.reduceNeg, Int.toNat_natCast, hm1, hm2, hn0, and_self, rep_rowZ, rowZ_len]; rfl)) ?_)
        refine W.loop (ι := Nat) (fun i => ⟨upd (upd (upd (upd (upd (upd (upd (upd (fun _ => .top) 1 (.c (.sl (ch.map fun b => [C.bool b])))) 2 (.ptr 2 0)) 5 (.c (.bool true))) 8 (.map 39)) 11 (.own 51)) 52 (.own 51)) 53 (.c (.int .i64 rg))) 54 (.c (.int .i64 i)), upd (upd (upd Mem.nil 2 (some (.box 24 [.c (.str cls), .c (.str name), .c (.int .i64 params), .c (.int .i64 rg), .c (.sl (code.map cIns))]))) 39 (some (.map (entsQ (edD code rg))))) 51 (some (.mrow 3 1 (rowZ rg fun r => if r < i then -1 - (r : Int) else 0)))⟩) (fun i => i ≤ rg) (fun i => rg - i) 0 ?startB (Nat.zero_le _) ?roundB
        case startB =>
          refine le_mk ?sle ?mle ?swf ?mwf (kept_not hkeep) (by rfl)
          case swf => repeat (first | exact swf_top _ | refine swf_upd ?_ (by simp [A.ids, upd_app, entsQ_flat, Nat.not_lt_zero, if_false]))
          case mwf => repeat (first | exact mwf_nil _ | refine mwf_upd ?_ (by simp [A.ids, O.ids, upd_app, entsQ_flat, Nat.not_lt_zero, if_false]))
          case mle => repeat (first | exact mle_nil _ | exact mle_refl _ | refine mle_upd ?_ (by first | rfl | (simp only [upd_app, killM_app, O.kill, A.kill, Nat.reduceEqDiff, reduceIte, Option.map_some, Option.map_none, List.map_cons, List.map_nil, entsQ_flat, Nat.not_lt_zero, if_false]; done)))
          case sle => repeat (first | exact sle_top _ | exact sle_refl _ | refine sle_upd ?_ (by first | rfl | (simp only [upd_app, killS_app, A.kill, entry_zero, entry_succ, Nat.reduceEqDiff, reduceIte, entsQ_flat, Nat.not_lt_zero, if_false]; done)))
        case roundB =>
          intro i hi
          repeat (first | refine W.seq ?_ | refine W.block ?_ | refine W.skip ?_ | refine W.exit ?_ | refine W.region tab_ok 0 (by decide) (exec_run (by simp only [exa, beq_self_eq_true, ByteArray.size, Nat.reduceAdd, Nat.reduceLeDiff, Nat.reduceEqDiff, Nat.reduceMul, Int.reduceToNat, reduceIte, Int.reduceLE, Int.reduceNeg]; rfl)) ?_)
          refine W.cond rfl ?_ ?_
          · intro hlt
            simp only [decide_eq_true_eq, Int.ofNat_lt] at hlt
            have hi0 : (0 : Int) ≤ (i : Int) := by omega
            have hws : IntKind.i64.wrap (-1 - (i : Int)) = -1 - (i : Int) := by rw [IntKind.wrap_i64]; omega
            repeat (first | refine W.seq ?_ | refine W.block ?_ | refine W.skip ?_ | refine W.exit ?_ | refine W.region tab_ok 0 (by decide) (exec_run (by simp only [exa, beq_self_eq_true, ByteArray.size, Nat.reduceAdd, Nat.reduceLeDiff, Nat.reduceEqDiff, Nat.reduceMul, Int.reduceToNat, reduceIte, Int.reduceLE, Int.reduceNeg, hi0, hlt, rowZ_at hlt, rowZ_len, Int.toNat_natCast, and_self, Int.reduceNeg, hws, rowZ_set]; rfl)) ?_)
            refine ⟨i + 1, hlt, by omega, ?_⟩
            have hrow : (rowZ rg fun j => if j = i then -1 - (i : Int) else if j < i then -1 - (j : Int) else 0) = rowZ rg fun r => if r < i + 1 then -1 - (r : Int) else 0 := rowZ_congr fun j _ => by
              by_cases e : j = i
              · subst e; simp
              · have : (j < i + 1) ↔ (j < i) := by omega
                simp [e, this]
            rw [← hrow]
            refine le_mk ?sle ?mle ?swf ?mwf (kept_not hkeep) (by rfl)
            case swf => repeat (first | exact swf_top _ | refine swf_upd ?_ (by simp [A.ids, upd_app, entsQ_flat, wrap_succ (show i + 1 < 9223372036854775808 by omega)]))
            case mwf => repeat (first | exact mwf_nil _ | refine mwf_upd ?_ (by simp [A.ids, O.ids, upd_app, entsQ_flat, wrap_succ (show i + 1 < 9223372036854775808 by omega)]))
            case mle => repeat (first | exact mle_nil _ | exact mle_refl _ | refine mle_upd ?_ (by first | rfl | (simp only [upd_app, killM_app, O.kill, A.kill, Nat.reduceEqDiff, reduceIte, Option.map_some, Option.map_none, List.map_cons, List.map_nil, entsQ_flat, wrap_succ (show i + 1 < 9223372036854775808 by omega)]; done)))
            case sle => repeat (first | exact sle_top _ | exact sle_refl _ | refine sle_upd ?_ (by first | rfl | (simp only [upd_app, killS_app, A.kill, entry_zero, entry_succ, Nat.reduceEqDiff, reduceIte, entsQ_flat, wrap_succ (show i + 1 < 9223372036854775808 by omega)]; done)))
          · intro hge
            simp only [decide_eq_false_iff_not, Int.ofNat_lt] at hge
            obtain rfl : rg = i := by omega
            have hrow : (rowZ rg fun r => if r < rg then -1 - (r : Int) else 0) = rowZ rg fun r => ((((fun r => rg - 1 - r : Nat → Nat) r : Nat)) : Int) - rg := rowZ_congr fun j hj => by
              simp only [if_pos hj]; omega
            rw [hrow]
            repeat (first | refine W.seq ?_ | refine W.block ?_ | refine W.skip ?_ | refine W.exit ?_ | refine W.region tab_ok 0 (by decide) (exec_run (by simp only [exa, beq_self_eq_true, ByteArray.size, Nat.reduceAdd, Nat.reduceLeDiff, Nat.reduceEqDiff, Nat.reduceMul, Int.reduceToNat, reduceIte, Int.reduceLE, Int.reduceNeg]; rfl)) ?_)
            refine W.loop (ι := (Nat → Nat) × Nat × Nat × Nat) (fun y => ⟨upd (upd (upd (upd (upd (upd (upd (upd (fun _ => .top) 1 (.c (.sl (ch.map fun b => [C.bool b])))) 2 (.ptr 2 0)) 5 (.c (.bool true))) 8 (.map 39)) 11 (.own 51)) 13 (.c (.int .i64 y.2.1))) 14 (.c (.int .i64 y.2.2.1))) 63 (.c (.int .i64 y.2.2.2)), upd (upd (upd Mem.nil 2 (some (.box 24 [.c (.str cls), .c (.str name), .c (.int .i64 params), .c (.int .i64 rg), .c (.sl (code.map cIns))]))) 39 (some (.map (entsQ (edD code rg))))) 51 (some (.mrow 3 1 (rowZ rg fun r => ((y.1 r : Nat) : Int) - rg)))⟩) (fun y => MI code rg y.1 y.2.1 ∧ y.2.2.1 ≤ y.2.2.2 ∧ y.2.2.2 ≤ 400) (fun y => 400 - y.2.2.2) (fun r => rg - 1 - r, 0, 0, 0) ?startC ⟨MI.start (by omega), Nat.le_refl _, Nat.zero_le _⟩ ?roundC
            case startC =>
              refine le_mk ?sle ?mle ?swf ?mwf (kept_not hkeep) (by rfl)
              case swf => repeat (first | exact swf_top _ | refine swf_upd ?_ (by simp [A.ids, upd_app, entsQ_flat]))
              case mwf => repeat (first | exact mwf_nil _ | refine mwf_upd ?_ (by simp [A.ids, O.ids, upd_app, entsQ_flat]))
              case mle => repeat (first | exact mle_nil _ | exact mle_refl _ | refine mle_upd ?_ (by first | rfl | (simp only [upd_app, killM_app, O.kill, A.kill, Nat.reduceEqDiff, reduceIte, Option.map_some, Option.map_none, List.map_cons, List.map_nil, entsQ_flat]; done)))
              case sle => repeat (first | exact sle_top _ | exact sle_refl _ | refine sle_upd ?_ (by first | rfl | (simp only [upd_app, killS_app, A.kill, entry_zero, entry_succ, Nat.reduceEqDiff, reduceIte, entsQ_flat]; done)))
            case roundC =>
              rintro ⟨la, i, k, it⟩ ⟨hmi, hk, hit⟩
              simp only at hmi hk hit
              repeat (first | refine W.seq ?_ | refine W.block ?_ | refine W.skip ?_ | refine W.exit ?_ | refine W.region tab_ok 0 (by decide) (exec_run (by simp only [exa, beq_self_eq_true, ByteArray.size, Nat.reduceAdd, Nat.reduceLeDiff, Nat.reduceEqDiff, Nat.reduceMul, Int.reduceToNat, reduceIte, Int.reduceLE, Int.reduceNeg]; rfl)) ?_)
              refine W.cond rfl ?_ ?_
              · intro hlt
                simp only [decide_eq_true_eq] at hlt
                have hil := hmi.lt
                have hi0 : (0 : Int) ≤ (i : Int) := by omega
                obtain ⟨x, hx⟩ : ∃ x, code[i]? = some x := ⟨_, List.getElem?_eq_getElem hil⟩
                have hax := hargs x (List.mem_of_getElem? hx)
                have hUl := usI_len x
                (repeat (first | refine W.seq ?_ | refine W.block ?_ | refine W.skip ?_ | refine W.exit ?_))
                refine W.regionK tab_ok 0 (by decide) ?_
                refine runk_split 5 (by simp only [exa, beq_self_eq_true, ByteArray.size, Nat.reduceAdd, Nat.reduceLeDiff, Nat.reduceEqDiff, Nat.reduceMul, Int.reduceToNat, reduceIte, Int.reduceLE, Int.reduceNeg, at_map hx, List.length_map, hil, hi0, Int.toNat_natCast, and_self]; rfl) ?_
                refine runk_call rfl rfl rfl rfl rfl (by simp) (cvs_cons cv_refl cvs_nil) (refUses_ok x (by omega) _) ?_
                refine runk_exec (by simp only [exa, beq_self_eq_true, ByteArray.size, Nat.reduceAdd, Nat.reduceLeDiff, Nat.reduceEqDiff, Nat.reduceMul, Int.reduceToNat, reduceIte, Int.reduceLE, Int.reduceNeg, List.length_map]; rfl) ?_
                (repeat (first | refine W.seq ?_ | refine W.block ?_ | refine W.skip ?_ | refine W.exit ?_))
                refine W.loop (ι := Nat) (fun q => ⟨upd (upd (upd (upd (upd (upd (upd (upd (upd (upd (upd (fun _ => .top) 1 (.c (.sl (ch.map fun b => [C.bool b])))) 2 (.ptr 2 0)) 5 (.c (.bool true))) 8 (.map 39)) 11 (.own 51)) 13 (.c (.int .i64 i))) 14 (.c (.int .i64 k))) 63 (.c (.int .i64 it))) 70 (.c (.sl ((usI x).map cZ)))) 71 (.c (.int .i64 (usI x).length))) 72 (.c (.int .i64 q)), upd (upd (upd Mem.nil 2 (some (.box 24 [.c (.str cls), .c (.str name), .c (.int .i64 params), .c (.int .i64 rg), .c (.sl (code.map cIns))]))) 39 (some (.map (entsQ (edD code rg))))) 51 (some (.mrow 3 1 (rowZ rg fun r => ((la r : Nat) : Int) - rg)))⟩) (fun q => q ≤ (usI x).length) (fun q => (usI x).length - q) 0 ?startD (Nat.zero_le _) ?roundD
                case startD =>
                  refine le_mk ?sle ?mle ?swf ?mwf (kept_not hkeep) (by rfl)
                  case swf => repeat (first | exact swf_top _ | refine swf_upd ?_ (by simp [A.ids, upd_app, entsQ_flat]))
                  case mwf => repeat (first | exact mwf_nil _ | refine mwf_upd ?_ (by simp [A.ids, O.ids, upd_app, entsQ_flat]))
                  case mle => repeat (first | exact mle_nil _ | exact mle_refl _ | refine mle_upd ?_ (by first | rfl | (simp only [upd_app, killM_app, O.kill, A.kill, Nat.reduceEqDiff, reduceIte, Option.map_some, Option.map_none, List.map_cons, List.map_nil, entsQ_flat]; done)))
                  case sle => repeat (first | exact sle_top _ | exact sle_refl _ | refine sle_upd ?_ (by first | rfl | (simp only [upd_app, killS_app, A.kill, entry_zero, entry_succ, Nat.reduceEqDiff, reduceIte, entsQ_flat]; done)))
                case roundD =>
                  intro q hq
                  repeat (first | refine W.seq ?_ | refine W.block ?_ | refine W.skip ?_ | refine W.exit ?_ | refine W.region tab_ok 0 (by decide) (exec_run (by simp only [exa, beq_self_eq_true, ByteArray.size, Nat.reduceAdd, Nat.reduceLeDiff, Nat.reduceEqDiff, Nat.reduceMul, Int.reduceToNat, reduceIte, Int.reduceLE, Int.reduceNeg]; rfl)) ?_)
                  refine W.cond rfl ?_ ?_
                  · intro hlq
                    simp only [decide_eq_true_eq, Int.ofNat_lt] at hlq
                    obtain ⟨u, hu2⟩ : ∃ u, (usI x)[q]? = some u := ⟨_, List.getElem?_eq_getElem hlq⟩
                    have hub := okD_us hok' hx (List.mem_of_getElem? hu2)
                    obtain ⟨r, rfl⟩ := Int.eq_ofNat_of_zero_le hub.1
                    have hrr : r < rg := by omega
                    have hr0 : (0 : Int) ≤ (r : Int) := by omega
                    obtain ⟨qq, hfind, -⟩ := findQ_some (hmi.edge hok' hx hrr (List.mem_of_getElem? hu2))
                    have hcz : ∀ e : Int × Int, cE e = [.int .i64 e.1, .int .i64 e.2] := fun _ => rfl
                    rw [hcz] at hfind
                    (repeat (first | refine W.seq ?_ | refine W.block ?_ | refine W.skip ?_ | refine W.exit ?_))
                    refine W.region tab_ok 0 (by decide) (exec_run (by simp only [exa, beq_self_eq_true, ByteArray.size, Nat.reduceAdd, Nat.reduceLeDiff, Nat.reduceEqDiff, Nat.reduceMul, Int.reduceToNat, reduceIte, Int.reduceLE, Int.reduceNeg, at_map hu2, cZ]; rfl)) ?_
                    (repeat (first | refine W.seq ?_ | refine W.block ?_ | refine W.skip ?_ | refine W.exit ?_))
                    refine W.region tab_ok 0 (by decide) (exec_run (by simp only [exa, beq_self_eq_true, ByteArray.size, Nat.reduceAdd, Nat.reduceLeDiff, Nat.reduceEqDiff, Nat.reduceMul, Int.reduceToNat, reduceIte, Int.reduceLE, Int.reduceNeg, rowZ_at hrr, rowZ_len, hrr, hr0, Int.toNat_natCast, and_self, hfind, Bool.not_true]; rfl)) ?_
                    refine W.cond rfl (fun h => absurd h (by simp)) (fun _ => ?_)
                    repeat (first | refine W.seq ?_ | refine W.block ?_ | refine W.skip ?_ | refine W.exit ?_ | refine W.region tab_ok 0 (by decide) (exec_run (by simp only [exa, beq_self_eq_true, ByteArray.size, Nat.reduceAdd, Nat.reduceLeDiff, Nat.reduceEqDiff, Nat.reduceMul, Int.reduceToNat, reduceIte, Int.reduceLE, Int.reduceNeg]; rfl)) ?_)
                    refine ⟨q + 1, hlq, by omega, ?_⟩
                    refine le_mk ?sle ?mle ?swf ?mwf (kept_not hkeep) (by rfl)
                    case swf => repeat (first | exact swf_top _ | refine swf_upd ?_ (by simp [A.ids, upd_app, entsQ_flat, wrap_succ (show q + 1 < 9223372036854775808 by omega)]))
                    case mwf => repeat (first | exact mwf_nil _ | refine mwf_upd ?_ (by simp [A.ids, O.ids, upd_app, entsQ_flat, wrap_succ (show q + 1 < 9223372036854775808 by omega)]))
                    case mle => repeat (first | exact mle_nil _ | exact mle_refl _ | refine mle_upd ?_ (by first | rfl | (simp only [upd_app, killM_app, O.kill, A.kill, Nat.reduceEqDiff, reduceIte, Option.map_some, Option.map_none, List.map_cons, List.map_nil, entsQ_flat, wrap_succ (show q + 1 < 9223372036854775808 by omega)]; done)))
                    case sle => repeat (first | exact sle_top _ | exact sle_refl _ | refine sle_upd ?_ (by first | rfl | (simp only [upd_app, killS_app, A.kill, entry_zero, entry_succ, Nat.reduceEqDiff, reduceIte, entsQ_flat, wrap_succ (show q + 1 < 9223372036854775808 by omega)]; done)))
                  · intro hge
                    simp only [decide_eq_false_iff_not, Int.ofNat_lt] at hge
                    (repeat (first | refine W.seq ?_ | refine W.block ?_ | refine W.skip ?_ | refine W.exit ?_))
                    refine W.regionK tab_ok 0 (by decide) ?_
                    refine runk_split 5 (by simp only [exa, beq_self_eq_true, ByteArray.size, Nat.reduceAdd, Nat.reduceLeDiff, Nat.reduceEqDiff, Nat.reduceMul, Int.reduceToNat, reduceIte, Int.reduceLE, Int.reduceNeg, at_map hx, List.length_map, hil, hi0, Int.toNat_natCast, and_self]; rfl) ?_
                    refine runk_call rfl rfl rfl rfl rfl (by simp) (cvs_cons cv_refl cvs_nil) (refDef_ok x _) ?_
                    refine runk_exec (by simp only [exa, beq_self_eq_true, ByteArray.size, Nat.reduceAdd, Nat.reduceLeDiff, Nat.reduceEqDiff, Nat.reduceMul, Int.reduceToNat, reduceIte, Int.reduceLE, Int.reduceNeg]; rfl) ?_
                    refine W.mono (K := fun e st' => e = Exit.normal ∧ Le R.keep st' ⟨upd (upd (upd (upd (upd (upd (upd (upd (fun _ => .top) 1 (.c (.sl (ch.map fun b => [C.bool b])))) 2 (.ptr 2 0)) 5 (.c (.bool true))) 8 (.map 39)) 11 (.own 51)) 13 (.c (.int .i64 i))) 14 (.c (.int .i64 k))) 63 (.c (.int .i64 it)), upd (upd (upd Mem.nil 2 (some (.box 24 [.c (.str cls), .c (.str name), .c (.int .i64 params), .c (.int .i64 rg), .c (.sl (code.map cIns))]))) 39 (some (.map (entsQ (edD code rg))))) 51 (some (.mrow 3 1 (rowZ rg fun r => (((fun r => if dfN code i = some r then rg + i else la r) r : Nat) : Int) - rg)))⟩) ?_ ?_
                    · cases hd : hasD x.kind with
                      | false =>
                        have hdf : dfI x = -1 := by unfold dfI; rw [hd]; rfl
                        have hdn : dfN code i = none := by unfold dfN; rw [hx]; simp [hd]
                        rw [hdf, hdn]
                        repeat (first | refine W.seq ?_ | refine W.block ?_ | refine W.skip ?_ | refine W.exit ?_ | refine W.region tab_ok 0 (by decide) (exec_run (by simp only [exa, beq_self_eq_true, ByteArray.size, Nat.reduceAdd, Nat.reduceLeDiff, Nat.reduceEqDiff, Nat.reduceMul, Int.reduceToNat, reduceIte, Int.reduceLE, Int.reduceNeg, Int.reduceNeg, Int.reduceLE, decide_false]; rfl)) ?_)
                        refine W.cond rfl (fun h => absurd h (by simp)) (fun _ => ?_)
                        repeat (first | refine W.seq ?_ | refine W.block ?_ | refine W.skip ?_ | refine W.exit ?_ | refine W.region tab_ok 0 (by decide) (exec_run (by simp only [exa, beq_self_eq_true, ByteArray.size, Nat.reduceAdd, Nat.reduceLeDiff, Nat.reduceEqDiff, Nat.reduceMul, Int.reduceToNat, reduceIte, Int.reduceLE, Int.reduceNeg]; rfl)) ?_)
                        refine ⟨(by first | rfl | trivial), ?_⟩
                        refine le_mk ?sle ?mle ?swf ?mwf (kept_not hkeep) (by rfl)
                        case swf => repeat (first | exact swf_top _ | refine swf_upd ?_ (by simp [A.ids, upd_app, entsQ_flat, reduceCtorEq, if_false]))
                        case mwf => repeat (first | exact mwf_nil _ | refine mwf_upd ?_ (by simp [A.ids, O.ids, upd_app, entsQ_flat, reduceCtorEq, if_false]))
                        case mle => repeat (first | exact mle_nil _ | exact mle_refl _ | refine mle_upd ?_ (by first | rfl | (simp only [upd_app, killM_app, O.kill, A.kill, Nat.reduceEqDiff, reduceIte, Option.map_some, Option.map_none, List.map_cons, List.map_nil, entsQ_flat, reduceCtorEq, if_false]; done)))
                        case sle => repeat (first | exact sle_top _ | exact sle_refl _ | refine sle_upd ?_ (by first | rfl | (simp only [upd_app, killS_app, A.kill, entry_zero, entry_succ, Nat.reduceEqDiff, reduceIte, entsQ_flat, reduceCtorEq, if_false]; done)))
                      | true =>
                        have hdb := okD_df hok' hx hd
                        obtain ⟨r, hr⟩ := Int.eq_ofNat_of_zero_le hdb.1
                        have hrr : r < rg := by omega
                        have hdf : dfI x = (r : Int) := by unfold dfI; rw [hd]; exact hr
                        have hdn : dfN code i = some r := by unfold dfN; rw [hx]; simp [hd, hr]
                        have hr0 : (0 : Int) ≤ (r : Int) := by omega
                        have hrow : (rowZ rg fun j => if j = r then (i : Int) else ((la j : Nat) : Int) - rg) = rowZ rg fun r' => ((((fun r' => if dfN code i = some r' then rg + i else la r' : Nat → Nat) r' : Nat)) : Int) - rg := rowZ_congr fun j _ => by
                          rw [hdn]
                          by_cases e : j = r
                          · subst e; simp; omega
                          · have : ¬ (some r = some j) := fun h => e (Option.some.inj h).symm
                            simp [e, this]
                        rw [hdf]
                        repeat (first | refine W.seq ?_ | refine W.block ?_ | refine W.skip ?_ | refine W.exit ?_ | refine W.region tab_ok 0 (by decide) (exec_run (by simp only [exa, beq_self_eq_true, ByteArray.size, Nat.reduceAdd, Nat.reduceLeDiff, Nat.reduceEqDiff, Nat.reduceMul, Int.reduceToNat, reduceIte, Int.reduceLE, Int.reduceNeg, hr0, decide_true]; rfl)) ?_)
                        refine W.cond rfl (fun _ => ?_) (fun h => absurd h (by simp))
                        repeat (first | refine W.seq ?_ | refine W.block ?_ | refine W.skip ?_ | refine W.exit ?_ | refine W.region tab_ok 0 (by decide) (exec_run (by simp only [exa, beq_self_eq_true, ByteArray.size, Nat.reduceAdd, Nat.reduceLeDiff, Nat.reduceEqDiff, Nat.reduceMul, Int.reduceToNat, reduceIte, Int.reduceLE, Int.reduceNeg, rowZ_at hrr, rowZ_len, hrr, hr0, Int.toNat_natCast, and_self, rowZ_set]; rfl)) ?_)
                        refine ⟨(by first | rfl | trivial), ?_⟩
                        rw [← hrow]
                        refine le_mk ?sle ?mle ?swf ?mwf (kept_not hkeep) (by rfl)
                        case swf => repeat (first | exact swf_top _ | refine swf_upd ?_ (by simp [A.ids, upd_app, entsQ_flat]))
                        case mwf => repeat (first | exact mwf_nil _ | refine mwf_upd ?_ (by simp [A.ids, O.ids, upd_app, entsQ_flat]))
                        case mle => repeat (first | exact mle_nil _ | exact mle_refl _ | refine mle_upd ?_ (by first | rfl | (simp only [upd_app, killM_app, O.kill, A.kill, Nat.reduceEqDiff, reduceIte, Option.map_some, Option.map_none, List.map_cons, List.map_nil, entsQ_flat]; done)))
                        case sle => repeat (first | exact sle_top _ | exact sle_refl _ | refine sle_upd ?_ (by first | rfl | (simp only [upd_app, killS_app, A.kill, entry_zero, entry_succ, Nat.reduceEqDiff, reduceIte, entsQ_flat]; done)))
                    · rintro e st' ⟨rfl, hle⟩
                      refine W.weaken hle ?_
                      have hnl := nx_len code i
                      have hstep : ∀ z ∈ nx code i, ∃ k' : Nat, z = (k' : Int) ∧ MI code rg (fun r => if dfN code i = some r then rg + i else la r) k' := fun z hz => by
                        obtain ⟨k', rfl⟩ := Int.eq_ofNat_of_zero_le (okD_nx hok' hil hz).1
                        exact ⟨k', rfl, hmi.step hok' (List.mem_map.2 ⟨_, hz, by simp⟩)⟩
                      have hnxi := hnx i hil
                      obtain ⟨la', hla'⟩ : ∃ la' : Nat → Nat, la' = (fun r => if dfN code i = some r then rg + i else la r) := ⟨_, rfl⟩
                      rw [← hla'] at hstep ⊢
                      rcases hn : nx code i with _ | ⟨z, _ | ⟨z2, l⟩⟩
                      · rw [hn] at hnxi
                        simp only [List.map_nil] at hnxi
                        (repeat (first | refine W.seq ?_ | refine W.block ?_ | refine W.skip ?_ | refine W.exit ?_))
                        refine W.regionK tab_ok 0 (by decide) ?_
                        refine runk_split 2 (by simp only [exa, beq_self_eq_true, ByteArray.size, Nat.reduceAdd, Nat.reduceLeDiff, Nat.reduceEqDiff, Nat.reduceMul, Int.reduceToNat, reduceIte, Int.reduceLE, Int.reduceNeg, hcp, List.map_cons, List.map_nil]; rfl) ?_
                        refine runk_callE (D := []) rfl rfl rfl rfl rfl (fun j hj => by simp at hj) (by simp) (cvs_cons cv_refl (cvs_cons cv_refl cvs_nil)) (hnxi _ (by rfl)) ?_
                        simp only [killL, putS, upd_upd]
                        refine runk_exec (by simp only [exa, beq_self_eq_true, ByteArray.size, Nat.reduceAdd, Nat.reduceLeDiff, Nat.reduceEqDiff, Nat.reduceMul, Int.reduceToNat, reduceIte, Int.reduceLE, Int.reduceNeg]; rfl) ?_
                        repeat (first | refine W.seq ?_ | refine W.block ?_ | refine W.skip ?_ | refine W.exit ?_ | refine W.region tab_ok 0 (by decide) (exec_run (by simp only [exa, beq_self_eq_true, ByteArray.size, Nat.reduceAdd, Nat.reduceLeDiff, Nat.reduceEqDiff, Nat.reduceMul, Int.reduceToNat, reduceIte, Int.reduceLE, Int.reduceNeg, List.length_nil, Int.cast_ofNat_Int, eq_self, decide_true]; rfl)) ?_)
                        refine W.cond rfl (fun _ => ?_) (fun h => absurd h (by simp))
                        repeat (first | refine W.seq ?_ | refine W.block ?_ | refine W.skip ?_ | refine W.exit ?_ | refine W.region tab_ok 0 (by decide) (exec_run (by simp only [exa, beq_self_eq_true, ByteArray.size, Nat.reduceAdd, Nat.reduceLeDiff, Nat.reduceEqDiff, Nat.reduceMul, Int.reduceToNat, reduceIte, Int.reduceLE, Int.reduceNeg]; rfl)) ?_)
                        refine W.ret ⟨.inr rfl, by rfl, ?_⟩
                        simp only [Tryd.f5, resA, resOne, toT, fin, exa, beq_self_eq_true, ByteArray.size, Nat.reduceAdd, Nat.reduceLeDiff, Nat.reduceEqDiff, Nat.reduceMul, Int.reduceToNat, reduceIte, Int.reduceLE, Int.reduceNeg]
                      · rw [hn] at hnxi hstep
                        simp only [List.map_cons, List.map_nil, cZ] at hnxi
                        obtain ⟨k1, rfl, hmi1⟩ := hstep z (by simp)
                        (repeat (first | refine W.seq ?_ | refine W.block ?_ | refine W.skip ?_ | refine W.exit ?_))
                        refine W.regionK tab_ok 0 (by decide) ?_
                        refine runk_split 2 (by simp only [exa, beq_self_eq_true, ByteArray.size, Nat.reduceAdd, Nat.reduceLeDiff, Nat.reduceEqDiff, Nat.reduceMul, Int.reduceToNat, reduceIte, Int.reduceLE, Int.reduceNeg, hcp, List.map_cons, List.map_nil]; rfl) ?_
                        refine runk_callE (D := []) rfl rfl rfl rfl rfl (fun j hj => by simp at hj) (by simp) (cvs_cons cv_refl (cvs_cons cv_refl cvs_nil)) (hnxi _ (by rfl)) ?_
                        simp only [killL, putS, upd_upd]
                        refine runk_exec (by simp only [exa, beq_self_eq_true, ByteArray.size, Nat.reduceAdd, Nat.reduceLeDiff, Nat.reduceEqDiff, Nat.reduceMul, Int.reduceToNat, reduceIte, Int.reduceLE, Int.reduceNeg]; rfl) ?_
                        repeat (first | refine W.seq ?_ | refine W.block ?_ | refine W.skip ?_ | refine W.exit ?_ | refine W.region tab_ok 0 (by decide) (exec_run (by simp only [exa, beq_self_eq_true, ByteArray.size, Nat.reduceAdd, Nat.reduceLeDiff, Nat.reduceEqDiff, Nat.reduceMul, Int.reduceToNat, reduceIte, Int.reduceLE, Int.reduceNeg, List.length_nil, List.length_cons, Nat.zero_add, Int.cast_ofNat_Int, Int.reduceEq, decide_false]; rfl)) ?_)
                        refine W.cond rfl (fun h => absurd h (by simp)) (fun _ => ?_)
                        repeat (first | refine W.seq ?_ | refine W.block ?_ | refine W.skip ?_ | refine W.exit ?_ | refine W.region tab_ok 0 (by decide) (exec_run (by simp only [exa, beq_self_eq_true, ByteArray.size, Nat.reduceAdd, Nat.reduceLeDiff, Nat.reduceEqDiff, Nat.reduceMul, Int.reduceToNat, reduceIte, Int.reduceLE, Int.reduceNeg, List.length_nil, List.length_cons, Nat.zero_add, Int.cast_ofNat_Int, Int.reduceLT, decide_false, List.getElem?_cons_zero, Nat.lt_add_one, and_self]; rfl)) ?_)
                        refine W.cond rfl (fun h => absurd h (by simp)) (fun _ => ?_)
                        repeat (first | refine W.seq ?_ | refine W.block ?_ | refine W.skip ?_ | refine W.exit ?_ | refine W.region tab_ok 0 (by decide) (exec_run (by simp only [exa, beq_self_eq_true, ByteArray.size, Nat.reduceAdd, Nat.reduceLeDiff, Nat.reduceEqDiff, Nat.reduceMul, Int.reduceToNat, reduceIte, Int.reduceLE, Int.reduceNeg]; rfl)) ?_)
                        refine ⟨(la', k1, k, it + 1), ⟨hmi1, by simp only; omega, by simp only; omega⟩, by simp only; omega, ?_⟩
                        refine le_mk ?sle ?mle ?swf ?mwf (kept_not hkeep) (by rfl)
                        case swf => repeat (first | exact swf_top _ | refine swf_upd ?_ (by simp [A.ids, upd_app, entsQ_flat, wrap_succ (show it + 1 < 9223372036854775808 by omega)]))
                        case mwf => repeat (first | exact mwf_nil _ | refine mwf_upd ?_ (by simp [A.ids, O.ids, upd_app, entsQ_flat, wrap_succ (show it + 1 < 9223372036854775808 by omega)]))
                        case mle => repeat (first | exact mle_nil _ | exact mle_refl _ | refine mle_upd ?_ (by first | rfl | (simp only [upd_app, killM_app, O.kill, A.kill, Nat.reduceEqDiff, reduceIte, Option.map_some, Option.map_none, List.map_cons, List.map_nil, entsQ_flat, wrap_succ (show it + 1 < 9223372036854775808 by omega)]; done)))
                        case sle => repeat (first | exact sle_top _ | exact sle_refl _ | refine sle_upd ?_ (by first | rfl | (simp only [upd_app, killS_app, A.kill, entry_zero, entry_succ, Nat.reduceEqDiff, reduceIte, entsQ_flat, wrap_succ (show it + 1 < 9223372036854775808 by omega)]; done)))
                      · have hl0 : l = [] := by rw [hn] at hnl; simp at hnl; exact hnl
                        subst hl0
                        rw [hn] at hnxi hstep
                        simp only [List.map_cons, List.map_nil, cZ] at hnxi
                        obtain ⟨k1, rfl, hmi1⟩ := hstep z (by simp)
                        obtain ⟨k2, rfl, hmi2⟩ := hstep z2 (by simp)
                        (repeat (first | refine W.seq ?_ | refine W.block ?_ | refine W.skip ?_ | refine W.exit ?_))
                        refine W.regionK tab_ok 0 (by decide) ?_
                        refine runk_split 2 (by simp only [exa, beq_self_eq_true, ByteArray.size, Nat.reduceAdd, Nat.reduceLeDiff, Nat.reduceEqDiff, Nat.reduceMul, Int.reduceToNat, reduceIte, Int.reduceLE, Int.reduceNeg, hcp, List.map_cons, List.map_nil]; rfl) ?_
                        refine runk_callE (D := []) rfl rfl rfl rfl rfl (fun j hj => by simp at hj) (by simp) (cvs_cons cv_refl (cvs_cons cv_refl cvs_nil)) (hnxi _ (by rfl)) ?_
                        simp only [killL, putS, upd_upd]
                        refine runk_exec (by simp only [exa, beq_self_eq_true, ByteArray.size, Nat.reduceAdd, Nat.reduceLeDiff, Nat.reduceEqDiff, Nat.reduceMul, Int.reduceToNat, reduceIte, Int.reduceLE, Int.reduceNeg]; rfl) ?_
                        repeat (first | refine W.seq ?_ | refine W.block ?_ | refine W.skip ?_ | refine W.exit ?_ | refine W.region tab_ok 0 (by decide) (exec_run (by simp only [exa, beq_self_eq_true, ByteArray.size, Nat.reduceAdd, Nat.reduceLeDiff, Nat.reduceEqDiff, Nat.reduceMul, Int.reduceToNat, reduceIte, Int.reduceLE, Int.reduceNeg, List.length_nil, List.length_cons, Nat.zero_add, Int.cast_ofNat_Int, Int.reduceEq, decide_false]; rfl)) ?_)
                        refine W.cond rfl (fun h => absurd h (by simp)) (fun _ => ?_)
                        (repeat (first | refine W.seq ?_ | refine W.block ?_ | refine W.skip ?_ | refine W.exit ?_))
                        refine W.region tab_ok 0 (by decide) (exec_run (by simp only [exa, beq_self_eq_true, ByteArray.size, Nat.reduceAdd, Nat.reduceLeDiff, Nat.reduceEqDiff, Nat.reduceMul, Int.reduceToNat, reduceIte, Int.reduceLE, Int.reduceNeg, List.length_nil, List.length_cons, Nat.zero_add, Int.cast_ofNat_Int, List.getElem?_cons_zero, Nat.zero_lt_succ, Nat.reduceLT, and_self]; rfl)) ?_
                        by_cases hc0 : ch.length = 0
                        · have hc1 := eq_false (show ¬ ((0 : Int) < (ch.length : Int)) by omega)
                          repeat (first | refine W.seq ?_ | refine W.block ?_ | refine W.skip ?_ | refine W.exit ?_ | refine W.region tab_ok 0 (by decide) (exec_run (by simp only [exa, beq_self_eq_true, ByteArray.size, Nat.reduceAdd, Nat.reduceLeDiff, Nat.reduceEqDiff, Nat.reduceMul, Int.reduceToNat, reduceIte, Int.reduceLE, Int.reduceNeg, List.length_nil, List.length_cons, Nat.zero_add, Int.cast_ofNat_Int, Int.reduceLT, decide_true, decide_false, List.length_map, hc1]; rfl)) ?_)
                          refine W.cond rfl (fun h => absurd h (by simp)) (fun _ => ?_)
                          repeat (first | refine W.seq ?_ | refine W.block ?_ | refine W.skip ?_ | refine W.exit ?_ | refine W.region tab_ok 0 (by decide) (exec_run (by simp only [exa, beq_self_eq_true, ByteArray.size, Nat.reduceAdd, Nat.reduceLeDiff, Nat.reduceEqDiff, Nat.reduceMul, Int.reduceToNat, reduceIte, Int.reduceLE, Int.reduceNeg]; rfl)) ?_)
                          refine ⟨(la', k1, k, it + 1), ⟨hmi1, by simp only; omega, by simp only; omega⟩, by simp only; omega, ?_⟩
                          refine le_mk ?sle ?mle ?swf ?mwf (kept_not hkeep) (by rfl)
                          case swf => repeat (first | exact swf_top _ | refine swf_upd ?_ (by simp [A.ids, upd_app, entsQ_flat, wrap_succ (show it + 1 < 9223372036854775808 by omega)]))
                          case mwf => repeat (first | exact mwf_nil _ | refine mwf_upd ?_ (by simp [A.ids, O.ids, upd_app, entsQ_flat, wrap_succ (show it + 1 < 9223372036854775808 by omega)]))
                          case mle => repeat (first | exact mle_nil _ | exact mle_refl _ | refine mle_upd ?_ (by first | rfl | (simp only [upd_app, killM_app, O.kill, A.kill, Nat.reduceEqDiff, reduceIte, Option.map_some, Option.map_none, List.map_cons, List.map_nil, entsQ_flat, wrap_succ (show it + 1 < 9223372036854775808 by omega)]; done)))
                          case sle => repeat (first | exact sle_top _ | exact sle_refl _ | refine sle_upd ?_ (by first | rfl | (simp only [upd_app, killS_app, A.kill, entry_zero, entry_succ, Nat.reduceEqDiff, reduceIte, entsQ_flat, wrap_succ (show it + 1 < 9223372036854775808 by omega)]; done)))
                        · have hc1 := eq_true (show (0 : Int) < (ch.length : Int) by omega)
                          have hc2 := eq_false (show ¬ ((ch.length : Int) = 0) by omega)
                          have hml : k % ch.length < ch.length := Nat.mod_lt _ (by omega)
                          have hmod : (k : Int).tmod (ch.length : Int) = ((k % ch.length : Nat) : Int) := rfl
                          have hm0 : (0 : Int) ≤ ((k % ch.length : Nat) : Int) := by omega
                          obtain ⟨b, hb⟩ : ∃ b, ch[k % ch.length]? = some b := ⟨_, List.getElem?_eq_getElem hml⟩
                          repeat (first | refine W.seq ?_ | refine W.block ?_ | refine W.skip ?_ | refine W.exit ?_ | refine W.region tab_ok 0 (by decide) (exec_run (by simp only [exa, beq_self_eq_true, ByteArray.size, Nat.reduceAdd, Nat.reduceLeDiff, Nat.reduceEqDiff, Nat.reduceMul, Int.reduceToNat, reduceIte, Int.reduceLE, Int.reduceNeg, List.length_nil, List.length_cons, Nat.zero_add, Int.cast_ofNat_Int, Int.reduceLT, decide_true, decide_false, List.length_map, hc1]; rfl)) ?_)
                          refine W.cond rfl (fun _ => ?_) (fun h => absurd h (by simp))
                          repeat (first | refine W.seq ?_ | refine W.block ?_ | refine W.skip ?_ | refine W.exit ?_ | refine W.region tab_ok 0 (by decide) (exec_run (by simp only [exa, beq_self_eq_true, ByteArray.size, Nat.reduceAdd, Nat.reduceLeDiff, Nat.reduceEqDiff, Nat.reduceMul, Int.reduceToNat, reduceIte, Int.reduceLE, Int.reduceNeg, List.length_map, hc2, hmod, at_map hb, hml, hm0, Int.toNat_natCast, and_self]; rfl)) ?_)
                          cases b with
                          | true =>
                            refine W.cond rfl (fun h => absurd h (by simp)) (fun _ => ?_)
                            repeat (first | refine W.seq ?_ | refine W.block ?_ | refine W.skip ?_ | refine W.exit ?_ | refine W.region tab_ok 0 (by decide) (exec_run (by simp only [exa, beq_self_eq_true, ByteArray.size, Nat.reduceAdd, Nat.reduceLeDiff, Nat.reduceEqDiff, Nat.reduceMul, Int.reduceToNat, reduceIte, Int.reduceLE, Int.reduceNeg]; rfl)) ?_)
                            refine ⟨(la', k1, k + 1, it + 1), ⟨hmi1, by simp only; omega, by simp only; omega⟩, by simp only; omega, ?_⟩
                            refine le_mk ?sle ?mle ?swf ?mwf (kept_not hkeep) (by rfl)
                            case swf => repeat (first | exact swf_top _ | refine swf_upd ?_ (by simp [A.ids, upd_app, entsQ_flat, wrap_succ (show it + 1 < 9223372036854775808 by omega), wrap_succ (show k + 1 < 9223372036854775808 by omega)]))
                            case mwf => repeat (first | exact mwf_nil _ | refine mwf_upd ?_ (by simp [A.ids, O.ids, upd_app, entsQ_flat, wrap_succ (show it + 1 < 9223372036854775808 by omega), wrap_succ (show k + 1 < 9223372036854775808 by omega)]))
                            case mle => repeat (first | exact mle_nil _ | exact mle_refl _ | refine mle_upd ?_ (by first | rfl | (simp only [upd_app, killM_app, O.kill, A.kill, Nat.reduceEqDiff, reduceIte, Option.map_some, Option.map_none, List.map_cons, List.map_nil, entsQ_flat, wrap_succ (show it + 1 < 9223372036854775808 by omega), wrap_succ (show k + 1 < 9223372036854775808 by omega)]; done)))
                            case sle => repeat (first | exact sle_top _ | exact sle_refl _ | refine sle_upd ?_ (by first | rfl | (simp only [upd_app, killS_app, A.kill, entry_zero, entry_succ, Nat.reduceEqDiff, reduceIte, entsQ_flat, wrap_succ (show it + 1 < 9223372036854775808 by omega), wrap_succ (show k + 1 < 9223372036854775808 by omega)]; done)))
                          | false =>
                            refine W.cond rfl (fun _ => ?_) (fun h => absurd h (by simp))
                            repeat (first | refine W.seq ?_ | refine W.block ?_ | refine W.skip ?_ | refine W.exit ?_ | refine W.region tab_ok 0 (by decide) (exec_run (by simp only [exa, beq_self_eq_true, ByteArray.size, Nat.reduceAdd, Nat.reduceLeDiff, Nat.reduceEqDiff, Nat.reduceMul, Int.reduceToNat, reduceIte, Int.reduceLE, Int.reduceNeg, List.length_nil, List.length_cons, Nat.zero_add, List.getElem?_cons_zero, List.getElem?_cons_succ, Int.reduceLT, Nat.reduceLT, and_self, Int.reduceToNat]; rfl)) ?_)
                            refine ⟨(la', k2, k + 1, it + 1), ⟨hmi2, by simp only; omega, by simp only; omega⟩, by simp only; omega, ?_⟩
                            refine le_mk ?sle ?mle ?swf ?mwf (kept_not hkeep) (by rfl)
                            case swf => repeat (first | exact swf_top _ | refine swf_upd ?_ (by simp [A.ids, upd_app, entsQ_flat, wrap_succ (show it + 1 < 9223372036854775808 by omega), wrap_succ (show k + 1 < 9223372036854775808 by omega)]))
                            case mwf => repeat (first | exact mwf_nil _ | refine mwf_upd ?_ (by simp [A.ids, O.ids, upd_app, entsQ_flat, wrap_succ (show it + 1 < 9223372036854775808 by omega), wrap_succ (show k + 1 < 9223372036854775808 by omega)]))
                            case mle => repeat (first | exact mle_nil _ | exact mle_refl _ | refine mle_upd ?_ (by first | rfl | (simp only [upd_app, killM_app, O.kill, A.kill, Nat.reduceEqDiff, reduceIte, Option.map_some, Option.map_none, List.map_cons, List.map_nil, entsQ_flat, wrap_succ (show it + 1 < 9223372036854775808 by omega), wrap_succ (show k + 1 < 9223372036854775808 by omega)]; done)))
                            case sle => repeat (first | exact sle_top _ | exact sle_refl _ | refine sle_upd ?_ (by first | rfl | (simp only [upd_app, killS_app, A.kill, entry_zero, entry_succ, Nat.reduceEqDiff, reduceIte, entsQ_flat, wrap_succ (show it + 1 < 9223372036854775808 by omega), wrap_succ (show k + 1 < 9223372036854775808 by omega)]; done)))
              · intro hge
                repeat (first | refine W.seq ?_ | refine W.block ?_ | refine W.skip ?_ | refine W.exit ?_ | refine W.region tab_ok 0 (by decide) (exec_run (by simp only [exa, beq_self_eq_true, ByteArray.size, Nat.reduceAdd, Nat.reduceLeDiff, Nat.reduceEqDiff, Nat.reduceMul, Int.reduceToNat, reduceIte, Int.reduceLE, Int.reduceNeg]; rfl)) ?_)
                refine W.ret ⟨.inr rfl, by rfl, ?_⟩
                simp only [Tryd.f5, resA, resOne, toT, fin, exa, beq_self_eq_true, ByteArray.size, Nat.reduceAdd, Nat.reduceLeDiff, Nat.reduceEqDiff, Nat.reduceMul, Int.reduceToNat, reduceIte, Int.reduceLE, Int.reduceNeg]
end V
end Go.Proofs.YtcldeoolglhdoaaDoor
end
