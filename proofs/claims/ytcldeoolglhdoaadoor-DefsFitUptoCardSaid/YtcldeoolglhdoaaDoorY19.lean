/- Joined by my own program, in build order: Cpy, Sets, SetM, SetC, Cpe, Edg, Flw, Vs, Vtree, Vpor, Vnp, UP. -/
import Derived.Test.YtcldeoolglhdoaaDoorY17
import Derived.Laws.CopyRow
import Derived.Laws.IdiomCopy
import Derived.Test.YtcldeoolglhdoaaDoorY18
import Derived.Test.YtcldeoolglhdoaaDoorY13
import Derived.Test.YtcldeoolglhdoaaDoorY14
import Derived.Sort.LoopGhostIn
set_option linter.unusedVariables false
set_option linter.unusedSimpArgs false
section
set_option linter.unusedVariables false
set_option linter.unusedSimpArgs false
namespace Go.Proofs.YtcldeoolglhdoaaDoor
namespace V
open Go.RowKit
structure HCopy (T : Tab) (ops : Array Oper) (o : Oper) (st : St) (c : Call) (x y : Operand) (t s d id j e : Nat) (tx ty : TypeId) (xs ys : List (List C)) : Prop where
  want : wantA ops o st.s = some true
  op : o.op = .call c
  callee : c.callee = .builtin .copy
  args : c.args = #[x, y]
  tys : c.argTypes = #[t, s]
  dst : o.dst = some d
  at_ : ev st.s x = .own id
  row : st.m id = some (.mrow tx 1 xs)
  from_ : ev st.s y = .own j
  row' : st.m j = some (.mrow ty 1 ys)
  elem : T.elem t = some (e, 1)
  len : xs.length = ys.length
theorem add_off (b o k : Nat) : (⟨b, o, none⟩ : Addr).add k = ⟨b, o + k, none⟩ := by
  unfold Addr.add
  by_cases hk : k = 0
  · subst hk; rfl
  · simp [hk]
variable {P : Go.Program} {T : Tab} (hT : T.Ok P) {kp : Nat → Prop} {ops : Array Oper}
include hT
theorem eff_copy {o : Oper} {st : St} {c : Call} {x y : Operand} {t s d id j e : Nat} {tx ty : TypeId} {xs ys : List (List C)} (h : HCopy T ops o st c x y t s d id j e tx ty xs ys) :
    Eff P T kp ops o st ⟨upd st.s d (.c (.int .i64 xs.length)), upd st.m id (some (.mrow tx 1 ys))⟩ := by
  have liv : ∀ i, (st.m i).isSome = true → (upd st.m id (some (O.mrow tx 1 ys)) i).isSome = true := fun i hi => by
    unfold upd; split
    · rfl
    · exact hi
  have wf : WF st → WF ⟨upd st.s d (.c (.int .i64 xs.length)), upd st.m id (some (.mrow tx 1 ys))⟩ := fun hw => ⟨fun u i hi => by
    have hi : i ∈ (upd st.s d (A.c (.int .i64 xs.length)) u).ids := hi
    unfold upd at hi
    split at hi
    · simp [A.ids] at hi
    · exact liv i (hw.ids u i hi), fun q z hz i hi => by
    have hz : upd st.m id (some (O.mrow tx 1 ys)) q = some z := hz
    unfold upd at hz
    split at hz
    · cases hz; simp [O.ids] at hi
    · exact liv i (hw.live q z hz i hi)⟩
  refine ⟨by rw [h.op]; simp [kind, h.callee], wf, fun R n0 ds a w K Q hR hr hd hK => ?_⟩
  obtain ⟨B, I, hm, hx0, hkp0, hs⟩ := hr.ex
  rw [want_snd hs h.want, if_pos rfl]
  obtain ⟨hu, -, i, hi, hin⟩ := hT.elem _ _ _ h.elem
  have hsz : (P.info? e).map (·.size) = some 1 := by rw [hi]; simp [hin]
  have hx := ev_rv hs x
  rw [h.at_] at hx
  have hy := ev_rv hs y
  rw [h.from_] at hy
  obtain ⟨hx, ax, nx, cx, ex⟩ := hx
  obtain ⟨hy, ay, ny, cy, ey⟩ := hy
  obtain ⟨vs, hrow, hvs, hlx, hnI⟩ := hm.objs id _ h.row
  obtain ⟨us, hrow', hus, hly, hnI'⟩ := hm.objs j _ h.row'
  have hlen := h.len
  have hul : us.length = ys.length := by have := hrow'.1; omega
  have hsmall : xs.length ≤ maxLen := by
    rcases hrow.2 with ⟨-, q⟩ | ⟨g, off, cap, cur, -, -, q1, q2, -⟩
    · rw [q]; unfold maxLen; omega
    · omega
  have hwfl : (Lit.int .i64 (xs.length : Int)).wf = true := by
    unfold maxLen at hsmall
    rw [lit_wf]; simp [IntKind.min, IntKind.max, IntKind.bits, IntKind.signed]; omega
  have fin : ∃ w', (Builtin.copy_ #[t, s] o.type #[B id, B j]).run P w = .ok (.int .i64 xs.length) w' ∧ MR R.w0 R.I0 B I (upd st.m id (some (.mrow tx 1 ys))) w' ∧ Ext w w' I I := by
    by_cases h0 : xs.length = 0
    · obtain rfl : xs = [] := List.length_eq_zero_iff.1 h0
      obtain rfl : ys = [] := List.length_eq_zero_iff.1 (by simpa using hlen.symm)
      have e1 : nx = 0 := by
        rcases hrow.2 with ⟨q, -⟩ | ⟨g, off, cap, cur, q, -⟩ <;> rw [← hx, ex] at q <;> cases q <;> rfl
      have := run_copy_none (P := P) w t s o.type e ax ay nx cx ny cy hu hsz (by rw [e1]; simp)
      refine ⟨w, ?_, ?_, Ext.refl _ _⟩
      · rw [← hx, ← hy, ex, ey, this]; rfl
      · have e2 : upd st.m id (some (O.mrow tx 1 [])) = st.m := by
          funext q; unfold upd; split
          · rename_i e; subst e; exact h.row.symm
          · rfl
        rw [e2]; exact hm
    · rcases hrow.2 with ⟨-, q⟩ | ⟨g, off, cap, cur, q0, q1, q2, q3, q4, q5⟩
      · exact absurd q h0
      rcases hrow'.2 with ⟨-, p⟩ | ⟨g', off', cap', cur', p0, p1, p2, p3, p4, p5⟩
      · exact absurd (hlen.trans p) h0
      have hsrc : ∀ k v, us[k]? = some v → w.cell? ((⟨g', off', none⟩ : Addr).add k) = some v := fun k v hk => by
        have hkl := (List.getElem?_eq_some_iff.1 hk).1
        rw [add_off]
        rw [← p5, List.getElem?_take, if_pos (by omega), List.getElem?_drop, Array.getElem?_toList] at hk
        simp [World.cell?, p1, hk]
      have hone : ∀ v ∈ us, v.oneCell' = true := fun v hv => by
        obtain ⟨k, hk⟩ := List.getElem?_of_mem hv
        have hfl : (flat ys).length = us.length := (hus.length).symm
        obtain ⟨z, hz⟩ : ∃ z, (flat ys)[k]? = some z := ⟨_, List.getElem?_eq_getElem (by rw [hfl]; exact (List.getElem?_eq_some_iff.1 hk).1)⟩
        obtain ⟨v', h1, h2⟩ := hus.at k z hz
        rw [hk] at h1; cases h1
        exact h2.one.1
      have hrun := run_copy_row (P := P) w t s o.type e g off xs.length cap ⟨g', off', none⟩ ys.length cap' cur tx us hu hsz q1 (by rw [hul, hlen]; simp) hsrc (by omega) hone
      refine ⟨_, by rw [q0, p0]; exact hrun.trans (by rw [hul, ← hlen]; rfl), ?_⟩
      have hI : ∀ p, ¬ I g p := hnI g (by rw [q0]; rfl)
      refine hm.turn (b := g) h.row (by show (B id).ownBlock = _; rw [q0]; rfl) (fun k hk => ?_) hI rfl rfl rfl (setRow_size _ _ _) (fun k hk => setRow_other w g k _ hk) (fun i hi => by simp [O.ids] at hi) (fun hE => ⟨us, ⟨by omega, .inr ⟨g, off, cap, _, by rw [q0, ← hlen], setRow_heap w g cur _ tx (0, 0) q1, by omega, q3, ?_, ?_⟩⟩, hus.mono hE, hly, fun b hb o => hnI b hb o⟩)
      · have hk : (B id).ownBlock = some k := hk
        rw [q0] at hk; cases hk; rfl
      · simp; omega
      · simp only [List.append_assoc, Nat.mul_one]
        rw [List.drop_append, List.length_take]
        have z : off - min off cur.toList.length = 0 := by rw [Array.length_toList]; omega
        rw [z, show List.drop off (List.take off cur.toList) = [] by simp, List.nil_append, List.drop_zero]
        show List.take ys.length _ = us
        rw [List.take_append_of_le_length (by omega), List.take_of_length_le (by omega)]
  obtain ⟨w', r1, hm', hE⟩ := fin
  have hrun : (execOp a.eval o).run P w = .ok (.value (.int .i64 xs.length)) w' := by
    obtain ⟨cal, args, tys⟩ := c
    have h7 := h.callee
    have h8 := h.args
    have h9 := h.tys
    simp only at h7 h8 h9
    subst h7 h8 h9
    simp only [execOp, h.op, resolve, invoke, builtin, Sem.run_bind, Sem.run_pure, Result.andThen_ok, List.map_toArray, List.map_cons, List.map_nil, hx, hy, r1]
  unfold Oper.wp Oper.upon
  rw [hrun]
  have hdlt : ∀ q, o.dst = some q → q < a.tmps.size := fun q hq => by rw [hr.size]; exact hd q hq
  have hput := putS_rv (dst := o.dst) (r := A.c (.int .i64 xs.length)) (v := .int .i64 xs.length) (fun u => (hs u).mono hE (fun _ _ => rfl)) (show RV B w' I (.c (.int .i64 xs.length)) _ from .int hwfl) hdlt
  rw [h.dst] at hput
  refine hK _ _ ⟨⟨B, I, hm', hx0.trans hE, hkp0, by rw [h.dst]; exact hput⟩, (wf hr.wf).ids, by rw [(put_dst_size _ _ _).1]; exact hr.size, hr.nn, by
    rw [(put_dst_size _ _ _).2]
    have hdd : DID ≠ d := fun q => absurd (hd d h.dst) (Nat.not_lt.2 (q ▸ hr.nn))
    show a.defers = dfs (upd st.s d _ DID) ++ ds
    rw [upd_ne _ _ hdd]; exact hr.defs, fun k hk => liv k (hr.kept k hk)⟩
theorem runk_copy {base : Nat} {o : Oper} {l : List Oper} {st : St} {k : St → Prop} {c : Call} {x y : Operand} {t s d : Nat} (id j : Nat) {e : Nat} {tx ty : TypeId} {xs ys : List (List C)} (h : wantA ops o st.s = some true) (hop : o.op = .call c) (hc : c.callee = .builtin .copy) (ha : c.args = #[x, y]) (ht : c.argTypes = #[t, s]) (hd : o.dst = some d)
    (hx : ev st.s x = .own id) (hm : st.m id = some (.mrow tx 1 xs)) (hy : ev st.s y = .own j) (hm' : st.m j = some (.mrow ty 1 ys)) (h1 : T.elem t = some (e, 1)) (hl : xs.length = ys.length)
    (ht2 : RunK P T kp base ops l ⟨upd st.s d (.c (.int .i64 xs.length)), upd st.m id (some (.mrow tx 1 ys))⟩ k) : RunK P T kp base ops (o :: l) st k :=
  runk_step (.eff (eff_copy hT ⟨h, hop, hc, ha, ht, hd, hx, hm, hy, hm', h1, hl⟩)) ht2
end V
end Go.Proofs.YtcldeoolglhdoaaDoor
end
section
set_option linter.unusedVariables false
set_option linter.unusedSimpArgs false
namespace Go.Proofs.YtcldeoolglhdoaaDoor
namespace V
open Go.RowKit
def orF (R T : Nat → Bool) : Nat → Bool := fun x => R x || T x
def andF (R T : Nat → Bool) : Nat → Bool := fun x => R x && T x
def mixF (R S : Nat → Bool) (k : Nat) : Nat → Bool := fun x => if x / 64 < k then S x else R x
theorem wd_mix {R S : Nat → Bool} {k i : Nat} : wd (mixF R S k) i = if i < k then wd S i else wd R i := by
  split
  · rename_i h
    exact wd_congr fun j hj => by unfold mixF; rw [if_pos (by omega)]
  · rename_i h
    exact wd_congr fun j hj => by unfold mixF; rw [if_neg (by omega)]
theorem wd_or (R T : Nat → Bool) (i : Nat) : wd R i ||| wd T i = wd (orF R T) i :=
  wd_eq (Nat.or_lt_two_pow (n := 64) (wd_lt R i) (wd_lt T i)) fun j hj => by rw [Nat.testBit_or, testBit_wd, testBit_wd]; simp [hj, orF]
theorem wd_and (R T : Nat → Bool) (i : Nat) : wd R i &&& wd T i = wd (andF R T) i :=
  wd_eq (Nat.and_lt_two_pow (n := 64) _ (wd_lt T i)) fun j hj => by rw [Nat.testBit_and, testBit_wd, testBit_wd]; simp [hj, andF]
theorem cW_zeroMix (R S : Nat → Bool) : mixF R S 0 = R := by funext x; unfold mixF; rw [if_neg (by omega)]
theorem cW_mixAll {R S : Nat → Bool} {c : Nat} : cW (mixF R S c) c = cW S c := by
  refine List.ext_getElem? fun i => ?_
  by_cases hi : i < c
  · rw [cW_at hi, cW_at hi, wd_mix, if_pos hi]
  · rw [List.getElem?_eq_none (by rw [cW_len]; omega), List.getElem?_eq_none (by rw [cW_len]; omega)]
theorem cW_mixSet {R S : Nat → Bool} {c k : Nat} (hk : k < c) : (cW (mixF R S k) c).set k [.int .u64 (wd S k : Nat)] = cW (mixF R S (k + 1)) c := by
  refine List.ext_getElem? fun i => ?_
  rw [List.getElem?_set, cW_len]
  by_cases hi : i < c
  · rw [cW_at hi, cW_at hi, wd_mix, wd_mix]
    by_cases e : k = i
    · subst e; rw [if_pos rfl, if_pos hi, if_pos (by omega)]
    · rw [if_neg e]
      by_cases h : i < k
      · rw [if_pos h, if_pos (by omega)]
      · rw [if_neg h, if_neg (by omega)]
  · rw [if_neg (by omega), List.getElem?_eq_none (by rw [cW_len]; omega), List.getElem?_eq_none (by rw [cW_len]; omega)]
def chgB (R S : Nat → Bool) (k : Nat) : Bool := (List.range k).any fun i => wd S i != wd R i
theorem chg_succ (R S : Nat → Bool) (k : Nat) : chgB R S (k + 1) = (chgB R S k || (wd S k != wd R k)) := by
  unfold chgB; rw [List.range_succ, List.any_append]; simp
theorem chg_false {R S : Nat → Bool} {n : Nat} (hR : ∀ i, R i = true → i < n) (hS : ∀ i, S i = true → i < n) (h : chgB R S (nw n) = false) : S = R := by
  funext x
  by_cases hx : x < n
  · unfold chgB at h
    rw [List.any_eq_false] at h
    have h1 := h (wi x) (List.mem_range.2 (wi_lt hx))
    have e : wd S (wi x) = wd R (wi x) := by simpa using h1
    have e1 := testBit_wd S (wi x) (x % 64)
    have e2 := testBit_wd R (wi x) (x % 64)
    rw [e, e2] at e1
    have q : 64 * wi x + x % 64 = x := by unfold wi; omega
    rw [q] at e1
    simpa [show x % 64 < 64 by omega] using e1.symm
  · cases h1 : R x
    · cases h2 : S x
      · rfl
      · exact absurd (hS x h2) hx
    · exact absurd (hR x h1) hx
theorem chg_true {R S : Nat → Bool} {k : Nat} (h : chgB R S k = true) : ∃ d, S d ≠ R d := Classical.byContradiction fun hno => by
  have e : S = R := funext fun d => Classical.byContradiction fun q => hno ⟨d, q⟩
  subst e
  unfold chgB at h
  simp at h
theorem word_ok (n : Nat) (hn : n ≤ 1000000) (S : Nat → Bool) (hS : ∀ i, S i = true → i < n) (i : Nat) (hi : i < nw n) (m : Mem) : COk Tryd.prog 37 [.rptr [.int .i64 n, .sl (cW S (nw n))], .c (.int .i64 i), .c (.int .i64 n)] m (.c (.int .u64 (wd S i : Nat))) := by
  refine (ok_pure tab_ok Tryd.func37 (by kernel_rfl) rfl rfl (by rfl) (by rfl) (by rfl) (fun R hkeep => ?_) m)
  have g0 := eq_false (show ¬ ((nw n : Nat) : Int) ≤ (i : Int) by omega)
  have hnw := nw_le hn
  have hi0 : (0 : Int) ≤ (i : Int) := by omega
  have h1 : IntKind.i64.wrap ((i : Int) + 1) = ((i + 1 : Nat) : Int) := wrap_succ (by omega)
  have h2 : IntKind.i64.wrap (((i + 1 : Nat) : Int) * 2 ^ (min 6 IntKind.i64.bits)) = ((64 * (i + 1) : Nat) : Int) := by
    have e : (((i + 1 : Nat) : Int) * 2 ^ (min 6 IntKind.i64.bits)) = ((64 * (i + 1) : Nat) : Int) := by
      rw [show min 6 IntKind.i64.bits = 6 from by decide]; omega
    rw [e]; exact wrap_nat (by omega)
  have hx : (cW S (nw n))[i]? = some [.int .u64 (wd S i : Nat)] := cW_at hi
  by_cases ho : n < 64 * (i + 1)
  · obtain ⟨o, e⟩ : ∃ o, n + o = 64 * (i + 1) := ⟨64 * (i + 1) - n, by omega⟩
    have ho64 : o < 64 := by unfold nw at hi; omega
    have h3 : IntKind.i64.wrap (((64 * (i + 1) : Nat) : Int) - (n : Int)) = (o : Int) := by
      rw [show ((64 * (i + 1) : Nat) : Int) - (n : Int) = (o : Int) by omega]; exact wrap_nat (by omega)
    have h4 := eq_true (show (0 : Int) < (o : Int) by omega)
    repeat (first | refine W.seq ?_ | refine W.block ?_ | refine W.skip ?_ | refine W.exit ?_ | refine W.region tab_ok 0 (by decide) (exec_run (by simp only [exa, beq_self_eq_true, ByteArray.size, Nat.reduceAdd, Nat.reduceLeDiff, Nat.reduceEqDiff, Nat.reduceMul, Int.reduceToNat, reduceIte, Int.reduceLE, Int.reduceNeg, cW_len, g0, decide_false, h1]; rfl)) ?_)
    refine W.cond rfl (fun h => absurd h (by simp)) (fun _ => ?_)
    repeat (first | refine W.seq ?_ | refine W.block ?_ | refine W.skip ?_ | refine W.exit ?_ | refine W.region tab_ok 0 (by decide) (exec_run (by simp only [exa, beq_self_eq_true, ByteArray.size, Nat.reduceAdd, Nat.reduceLeDiff, Nat.reduceEqDiff, Nat.reduceMul, Int.reduceToNat, reduceIte, Int.reduceLE, Int.reduceNeg, h1, h2, h3, h4, decide_true]; rfl)) ?_)
    refine W.cond rfl (fun _ => ?_) (fun h => absurd h (by simp))
    have hx' : min o IntKind.u64.bits = o := by simp [IntKind.bits]; omega
    have hx2 : wd S i * 2 ^ o % 18446744073709551616 / 2 ^ o = wd S i := by
      rw [shifted S i n o ho64 e]
      exact wd_congr fun j hj => by
        unfold upto
        cases h : S (64 * i + j)
        · rfl
        · simp [hS _ h]
    have hx3 : IntKind.u64.wrap (((wd S i : Nat) : Int) * 2 ^ o) = ((wd S i * 2 ^ o % 18446744073709551616 : Nat) : Int) := by
      rw [IntKind.wrap_u64, show ((wd S i : Nat) : Int) * 2 ^ o = ((wd S i * 2 ^ o : Nat) : Int) by simp]
      rfl
    have hx4 : ((wd S i * 2 ^ o % 18446744073709551616 : Nat) : Int).fdiv (2 ^ o) = ((wd S i : Nat) : Int) := by
      rw [show (2 : Int) ^ o = ((2 ^ o : Nat) : Int) by simp]
      exact (Int.ofNat_fdiv _ _).symm.trans (congrArg _ hx2)
    have hx5 : IntKind.u64.wrap (o : Int) = (o : Int) := by rw [IntKind.wrap_u64]; omega
    repeat (first | refine W.seq ?_ | refine W.block ?_ | refine W.skip ?_ | refine W.exit ?_ | refine W.region tab_ok 0 (by decide) (exec_run (by simp only [exa, beq_self_eq_true, ByteArray.size, Nat.reduceAdd, Nat.reduceLeDiff, Nat.reduceEqDiff, Nat.reduceMul, Int.reduceToNat, reduceIte, Int.reduceLE, Int.reduceNeg, h1, h2, h3, h4, decide_true, cW_len, hx, hi, hi0, Int.toNat_natCast, hx', hx3, hx4, hx5]; rfl)) ?_)
    refine W.ret ⟨.inr rfl, by rfl, ?_⟩
    simp only [Tryd.f37, resA, resOne, toT, fin, exa, beq_self_eq_true, ByteArray.size, Nat.reduceAdd, Nat.reduceLeDiff, Nat.reduceEqDiff, Nat.reduceMul, Int.reduceToNat, reduceIte, Int.reduceLE, Int.reduceNeg, hx5, Int.toNat_natCast, hx', hx4]
  · have h3 : IntKind.i64.wrap (((64 * (i + 1) : Nat) : Int) - (n : Int)) = ((64 * (i + 1) : Nat) : Int) - (n : Int) := by
      rw [IntKind.wrap_i64]; omega
    have h4 := eq_false (show ¬ (0 : Int) < ((64 * (i + 1) : Nat) : Int) - (n : Int) by omega)
    repeat (first | refine W.seq ?_ | refine W.block ?_ | refine W.skip ?_ | refine W.exit ?_ | refine W.region tab_ok 0 (by decide) (exec_run (by simp only [exa, beq_self_eq_true, ByteArray.size, Nat.reduceAdd, Nat.reduceLeDiff, Nat.reduceEqDiff, Nat.reduceMul, Int.reduceToNat, reduceIte, Int.reduceLE, Int.reduceNeg, cW_len, g0, decide_false, h1]; rfl)) ?_)
    refine W.cond rfl (fun h => absurd h (by simp)) (fun _ => ?_)
    repeat (first | refine W.seq ?_ | refine W.block ?_ | refine W.skip ?_ | refine W.exit ?_ | refine W.region tab_ok 0 (by decide) (exec_run (by simp only [exa, beq_self_eq_true, ByteArray.size, Nat.reduceAdd, Nat.reduceLeDiff, Nat.reduceEqDiff, Nat.reduceMul, Int.reduceToNat, reduceIte, Int.reduceLE, Int.reduceNeg, h1, h2, h3, h4, decide_false]; rfl)) ?_)
    refine W.cond rfl (fun h => absurd h (by simp)) (fun _ => ?_)
    repeat (first | refine W.seq ?_ | refine W.block ?_ | refine W.skip ?_ | refine W.exit ?_ | refine W.region tab_ok 0 (by decide) (exec_run (by simp only [exa, beq_self_eq_true, ByteArray.size, Nat.reduceAdd, Nat.reduceLeDiff, Nat.reduceEqDiff, Nat.reduceMul, Int.reduceToNat, reduceIte, Int.reduceLE, Int.reduceNeg, cW_len, hx, hi, hi0, Int.toNat_natCast]; rfl)) ?_)
    refine W.ret ⟨.inr rfl, by rfl, ?_⟩
    simp only [Tryd.f37, resA, resOne, toT, fin, exa, beq_self_eq_true, ByteArray.size, Nat.reduceAdd, Nat.reduceLeDiff, Nat.reduceEqDiff, Nat.reduceMul, Int.reduceToNat, reduceIte, Int.reduceLE, Int.reduceNeg]
theorem del_ok (n : Nat) (hn : n ≤ 1000000) (S : Nat → Bool) (k : Nat) (M : Mem) (b p q : Nat) (hM : ∀ d, M (b + d) = none) (hp : M p = some (setO n q)) (hq : M q = some (wordsO n S)) :
    CallE Tryd.prog 25 [.ptr p 0, .c (.int .i64 k)] M [] (.c (.bool (decide (k < n) && S k))) (if k < n ∧ S k = true then upd M q (some (wordsO n (delF S k))) else M) := by
  cases hR : (decide (k < n) && S k) with
  | false =>
    have hno : ¬ (k < n ∧ S k = true) := fun ⟨h1, h2⟩ => by simp [h1, h2] at hR
    rw [if_neg hno]
    refine (ok_eff tab_ok [] Tryd.func25 (by kernel_rfl) rfl rfl (by rfl) (by rfl) ?ids ?res ?sub ?wfm (fun hWF Rr hkeep => ?_))
    case ids => intro a ha j hj; simp at ha; rcases ha with rfl | rfl <;> simp [A.ids] at hj; subst hj; simp [hp]
    case res => intro j hj; simp [A.ids] at hj
    case sub => exact fun j hj => hj
    case wfm => exact fun hw => hw
    repeat (first | refine W.seq ?_ | refine W.block ?_ | refine W.skip ?_ | refine W.exit ?_ | refine W.region tab_ok b (by decide) (exec_run (by simp only [exa, beq_self_eq_true, ByteArray.size, Nat.reduceAdd, Nat.reduceLeDiff, Nat.reduceEqDiff, Nat.reduceMul, Int.reduceToNat, reduceIte, Int.reduceLE, Int.reduceNeg]; rfl)) ?_)
    refine W.regionK tab_ok b (by decide) ?_
    refine runk_split 2 (by simp only [exa, beq_self_eq_true, ByteArray.size, Nat.reduceAdd, Nat.reduceLeDiff, Nat.reduceEqDiff, Nat.reduceMul, Int.reduceToNat, reduceIte, Int.reduceLE, Int.reduceNeg]; rfl) ?_
    refine runk_callE (D := []) rfl rfl rfl rfl rfl (fun j hj => by simp at hj) (by simp) (cvs_cons cv_refl (cvs_cons cv_refl cvs_nil)) (has_ok n hn S k M (b + 100) p q (base_more hM 100) hp hq) ?_
    simp only [killL, putS, upd_upd]
    refine runk_exec (by simp only [exa, beq_self_eq_true, ByteArray.size, Nat.reduceAdd, Nat.reduceLeDiff, Nat.reduceEqDiff, Nat.reduceMul, Int.reduceToNat, reduceIte, Int.reduceLE, Int.reduceNeg, hR, Bool.not_false]; rfl) ?_
    repeat (first | refine W.seq ?_ | refine W.block ?_ | refine W.skip ?_ | refine W.exit ?_ | refine W.region tab_ok b (by decide) (exec_run (by simp only [exa, beq_self_eq_true, ByteArray.size, Nat.reduceAdd, Nat.reduceLeDiff, Nat.reduceEqDiff, Nat.reduceMul, Int.reduceToNat, reduceIte, Int.reduceLE, Int.reduceNeg]; rfl)) ?_)
    refine W.cond rfl (fun _ => ?_) (fun h => absurd h (by simp))
    repeat (first | refine W.seq ?_ | refine W.block ?_ | refine W.skip ?_ | refine W.exit ?_ | refine W.region tab_ok b (by decide) (exec_run (by simp only [exa, beq_self_eq_true, ByteArray.size, Nat.reduceAdd, Nat.reduceLeDiff, Nat.reduceEqDiff, Nat.reduceMul, Int.reduceToNat, reduceIte, Int.reduceLE, Int.reduceNeg]; rfl)) ?_)
    refine W.ret ⟨.inr rfl, by rfl, ?_, ?mle⟩
    simp only [Tryd.f25, resE, resOne, fin, toT, exa, beq_self_eq_true, ByteArray.size, Nat.reduceAdd, Nat.reduceLeDiff, Nat.reduceEqDiff, Nat.reduceMul, Int.reduceToNat, reduceIte, Int.reduceLE, Int.reduceNeg]
    case mle => exact mle_refl _
  | true =>
    have hkn : k < n := by
      by_cases h : k < n
      · exact h
      · simp [h] at hR
    have hSk : S k = true := by simpa [hkn] using hR
    have hw := wi_lt hkn
    rw [if_pos ⟨hkn, hSk⟩]
    refine (ok_eff tab_ok [] Tryd.func25 (by kernel_rfl) rfl rfl (by rfl) (by rfl) ?ids ?res ?sub ?wfm (fun hWF Rr hkeep => ?_))
    case ids => intro a ha j hj; simp at ha; rcases ha with rfl | rfl <;> simp [A.ids] at hj; subst hj; simp [hp]
    case res => intro j hj; simp [A.ids] at hj
    case sub => exact fun j hj => live_upd j hj
    case wfm => exact fun hw => mwf_some hw (fun i hi => by simp [wordsO, O.ids] at hi)
    repeat (first | refine W.seq ?_ | refine W.block ?_ | refine W.skip ?_ | refine W.exit ?_ | refine W.region tab_ok b (by decide) (exec_run (by simp only [exa, beq_self_eq_true, ByteArray.size, Nat.reduceAdd, Nat.reduceLeDiff, Nat.reduceEqDiff, Nat.reduceMul, Int.reduceToNat, reduceIte, Int.reduceLE, Int.reduceNeg]; rfl)) ?_)
    refine W.regionK tab_ok b (by decide) ?_
    refine runk_split 2 (by simp only [exa, beq_self_eq_true, ByteArray.size, Nat.reduceAdd, Nat.reduceLeDiff, Nat.reduceEqDiff, Nat.reduceMul, Int.reduceToNat, reduceIte, Int.reduceLE, Int.reduceNeg]; rfl) ?_
    refine runk_callE (D := []) rfl rfl rfl rfl rfl (fun j hj => by simp at hj) (by simp) (cvs_cons cv_refl (cvs_cons cv_refl cvs_nil)) (has_ok n hn S k M (b + 100) p q (base_more hM 100) hp hq) ?_
    simp only [killL, putS, upd_upd]
    refine runk_exec (by simp only [exa, beq_self_eq_true, ByteArray.size, Nat.reduceAdd, Nat.reduceLeDiff, Nat.reduceEqDiff, Nat.reduceMul, Int.reduceToNat, reduceIte, Int.reduceLE, Int.reduceNeg, hR, Bool.not_true]; rfl) ?_
    repeat (first | refine W.seq ?_ | refine W.block ?_ | refine W.skip ?_ | refine W.exit ?_ | refine W.region tab_ok b (by decide) (exec_run (by simp only [exa, beq_self_eq_true, ByteArray.size, Nat.reduceAdd, Nat.reduceLeDiff, Nat.reduceEqDiff, Nat.reduceMul, Int.reduceToNat, reduceIte, Int.reduceLE, Int.reduceNeg]; rfl)) ?_)
    refine W.cond rfl (fun h => absurd h (by simp)) (fun _ => ?_)
    repeat (first | refine W.seq ?_ | refine W.block ?_ | refine W.skip ?_ | refine W.exit ?_ | refine W.region tab_ok b (by decide) (exec_run (by simp only [exa, beq_self_eq_true, ByteArray.size, Nat.reduceAdd, Nat.reduceLeDiff, Nat.reduceEqDiff, Nat.reduceMul, Int.reduceToNat, reduceIte, Int.reduceLE, Int.reduceNeg]; rfl)) ?_)
    refine W.regionK tab_ok b (by decide) ?_
    refine runk_split 1 (by simp only [exa, beq_self_eq_true, ByteArray.size, Nat.reduceAdd, Nat.reduceLeDiff, Nat.reduceEqDiff, Nat.reduceMul, Int.reduceToNat, reduceIte, Int.reduceLE, Int.reduceNeg]; rfl) ?_
    refine runk_call rfl rfl rfl rfl rfl (by simp) (cvs_cons cv_refl cvs_nil) (at_ok k (by omega) _) ?_
    refine runk_exec (by simp only [exa, beq_self_eq_true, ByteArray.size, Nat.reduceAdd, Nat.reduceLeDiff, Nat.reduceEqDiff, Nat.reduceMul, Int.reduceToNat, reduceIte, Int.reduceLE, Int.reduceNeg]; rfl) ?_
    repeat (first | refine W.seq ?_ | refine W.block ?_ | refine W.skip ?_ | refine W.exit ?_ | refine W.region tab_ok b (by decide) (exec_run (by simp only [exa, beq_self_eq_true, ByteArray.size, Nat.reduceAdd, Nat.reduceLeDiff, Nat.reduceEqDiff, Nat.reduceMul, Int.reduceToNat, reduceIte, Int.reduceLE, Int.reduceNeg, hp, hq, setO, wordsO, cW_len, cW_at hw, hw, Int.toNat_natCast, and_self]; rfl)) ?_)
    refine W.ret ⟨.inr rfl, by rfl, ?_, ?mle⟩
    simp only [Tryd.f25, resE, resOne, fin, toT, exa, beq_self_eq_true, ByteArray.size, Nat.reduceAdd, Nat.reduceLeDiff, Nat.reduceEqDiff, Nat.reduceMul, Int.reduceToNat, reduceIte, Int.reduceLE, Int.reduceNeg]
    case mle =>
      refine mle_refl' ?_
      have h := andNot_pw S k
      change IntKind.u64.wrap _ = _ at h
      have hset : (cW S (nw n)).set (wi k) [.int .u64 (wd (delF S k) (wi k) : Nat)] = cW (delF S k) (nw n) := by
        refine List.ext_getElem? fun i => ?_
        rw [List.getElem?_set, cW_len]
        by_cases hi : i < nw n
        · rw [cW_at hi, cW_at hi]
          by_cases e : wi k = i
          · subst e; rw [if_pos rfl, if_pos hi]
          · rw [if_neg e, wd_delF S k i (Ne.symm e)]
        · rw [if_neg (by omega), List.getElem?_eq_none (by rw [cW_len]; omega), List.getElem?_eq_none (by rw [cW_len]; omega)]
      refine congrArg (fun z => upd M q (some (O.mrow 63 1 z))) ?_
      rw [← hset]
      refine congrArg (fun z => (cW S (nw n)).set (wi k) [C.int .u64 z]) ?_
      exact h
theorem clone_ok (n : Nat) (hn : n ≤ 1000000) (S : Nat → Bool) (M : Mem) (b p q : Nat) (hM : ∀ d, M (b + d) = none) (hp : M p = some (setO n q)) (hq : M q = some (wordsO n S)) :
    CallE Tryd.prog 22 [.ptr p 0] M [] (.ptr (b + 12) 0) (upd (upd M (b + 10) (some (wordsO n S))) (b + 12) (some (setO n (b + 10)))) := by
  refine (ok_eff tab_ok [] Tryd.func22 (by kernel_rfl) rfl rfl (by rfl) (by rfl) ?ids ?res ?sub ?wfm (fun hWF Rr hkeep => ?_))
  case ids => intro a ha j hj; simp at ha; subst ha; simp [A.ids] at hj; subst hj; simp [hp]
  case res => intro j hj; simp [A.ids] at hj; subst hj; rw [upd_same]; rfl
  case sub => exact fun j hj => live_upd j (live_upd j hj)
  case wfm => exact fun hw => mwf_some (mwf_some hw (fun i hi => by simp [wordsO, O.ids] at hi)) (fun i hi => by simp [setO, O.ids, A.ids] at hi; subst hi; rw [upd_ne _ _ (by omega), upd_same]; rfl)
  have p10 := base_ne hM hp 10
  have p12 := base_ne hM hp 12
  have q10 := base_ne hM hq 10
  have q12 := base_ne hM hq 12
  repeat (first | refine W.seq ?_ | refine W.block ?_ | refine W.skip ?_ | refine W.exit ?_ | refine W.region tab_ok b (by decide) (exec_run (by simp only [exa, beq_self_eq_true, ByteArray.size, Nat.reduceAdd, Nat.reduceLeDiff, Nat.reduceEqDiff, Nat.reduceMul, Int.reduceToNat, reduceIte, Int.reduceLE, Int.reduceNeg]; rfl)) ?_)
  refine W.regionK tab_ok b (by decide) ?_
  refine runk_split 4 (by simp only [exa, beq_self_eq_true, ByteArray.size, Nat.reduceAdd, Nat.reduceLeDiff, Nat.reduceEqDiff, Nat.reduceMul, Int.reduceToNat, reduceIte, Int.reduceLE, Int.reduceNeg, hp, setO]; rfl) ?_
  refine runk_callE (D := []) rfl rfl rfl rfl rfl (fun j hj => by simp at hj) (by simp) (cvs_cons cv_refl cvs_nil) (new_ok n hn M b hM) ?_
  simp only [killL, putS, upd_upd]
  refine runk_exec (by simp only [exa, beq_self_eq_true, ByteArray.size, Nat.reduceAdd, Nat.reduceLeDiff, Nat.reduceEqDiff, Nat.reduceMul, Int.reduceToNat, reduceIte, Int.reduceLE, Int.reduceNeg]; rfl) ?_
  (repeat (first | refine W.seq ?_ | refine W.block ?_ | refine W.skip ?_ | refine W.exit ?_))
  refine W.regionDK tab_ok b follows_mixed (by kernel_rfl) (by decide) ?_
  have r1 : (b + 10 = b + 12) = False := eq_false (by omega)
  have r2 : (b + 12 = b + 10) = False := eq_false (by omega)
  refine runk_split 8 (by simp only [exa, beq_self_eq_true, ByteArray.size, Nat.reduceAdd, Nat.reduceLeDiff, Nat.reduceEqDiff, Nat.reduceMul, Int.reduceToNat, reduceIte, Int.reduceLE, Int.reduceNeg, setO, hp, hq, p10, p12, q10, q12, r1, r2]; rfl) ?_
  refine runk_copy tab_ok (b + 10) q (xs := cW (fun _ => false) (nw n)) (ys := cW S (nw n)) rfl rfl rfl rfl rfl rfl rfl (by simp only [exa, beq_self_eq_true, ByteArray.size, Nat.reduceAdd, Nat.reduceLeDiff, Nat.reduceEqDiff, Nat.reduceMul, Int.reduceToNat, reduceIte, Int.reduceLE, Int.reduceNeg, wordsO, r1, r2]; rfl) rfl (by simp only [exa, beq_self_eq_true, ByteArray.size, Nat.reduceAdd, Nat.reduceLeDiff, Nat.reduceEqDiff, Nat.reduceMul, Int.reduceToNat, reduceIte, Int.reduceLE, Int.reduceNeg, wordsO, hq, q10, q12]; rfl) rfl (by rw [cW_len, cW_len]) ?_
  refine runk_exec (by simp only [exa, beq_self_eq_true, ByteArray.size, Nat.reduceAdd, Nat.reduceLeDiff, Nat.reduceEqDiff, Nat.reduceMul, Int.reduceToNat, reduceIte, Int.reduceLE, Int.reduceNeg]; rfl) ?_
  repeat (first | refine W.seq ?_ | refine W.block ?_ | refine W.skip ?_ | refine W.exit ?_ | refine W.region tab_ok b (by decide) (exec_run (by simp only [exa, beq_self_eq_true, ByteArray.size, Nat.reduceAdd, Nat.reduceLeDiff, Nat.reduceEqDiff, Nat.reduceMul, Int.reduceToNat, reduceIte, Int.reduceLE, Int.reduceNeg]; rfl)) ?_)
  refine W.ret ⟨.inr rfl, by rfl, ?_, ?mle⟩
  simp only [Tryd.f22, resE, resOne, fin, toT, exa, beq_self_eq_true, ByteArray.size, Nat.reduceAdd, Nat.reduceLeDiff, Nat.reduceEqDiff, Nat.reduceMul, Int.reduceToNat, reduceIte, Int.reduceLE, Int.reduceNeg]
  case mle =>
    refine mle_refl' ?_
    funext u
    unfold upd
    by_cases h1 : u = b + 10
    · subst h1; simp [wordsO]
    · by_cases h2 : u = b + 12
      · subst h2; simp [setO]
      · simp [h1, h2]
theorem union_ok (n : Nat) (hn : n ≤ 1000000) (S U : Nat → Bool) (hU : ∀ i, U i = true → i < n) (M : Mem) (b p q p' q' : Nat) (hM : ∀ d, M (b + d) = none) (hp : M p = some (setO n q)) (hq : M q = some (wordsO n S)) (hp' : M p' = some (setO n q')) (hq' : M q' = some (wordsO n U)) (hqq : q ≠ q') :
    CallE Tryd.prog 21 [.ptr p 0, .ptr p' 0] M [] (.c (.bool (chgB S (orF S U) (nw n)))) (upd M q (some (wordsO n (orF S U)))) := by
  have hnw := nw_le hn
  refine (ok_eff tab_ok [] Tryd.func21 (by kernel_rfl) rfl rfl (by rfl) (by rfl) ?ids ?res ?sub ?wfm (fun hWF Rr hkeep => ?_))
  case ids => intro a ha j hj; simp at ha; rcases ha with rfl | rfl <;> simp [A.ids] at hj <;> subst hj <;> simp [hp, hp']
  case res => intro j hj; simp [A.ids] at hj
  case sub => exact fun j hj => live_upd j hj
  case wfm => exact fun hw => mwf_some hw (fun i hi => by simp [wordsO, O.ids] at hi)
  have hpq : (p = q) = False := eq_false fun e => by subst e; rw [hp] at hq; simp [setO, wordsO] at hq
  have hp'q : (p' = q) = False := eq_false fun e => by subst e; rw [hp'] at hq; simp [setO, wordsO] at hq
  have hq'q : (q' = q) = False := eq_false (Ne.symm hqq)
  have hword := fun i hi m => word_ok n hn U hU i hi m
  have kept : ∀ x, ∀ j, Rr.keep j → ((upd M q (some x)) j).isSome = true := fun x j hj => by rw [hkeep] at hj; exact live_upd j hj.1
  repeat (first | refine W.seq ?_ | refine W.block ?_ | refine W.skip ?_ | refine W.exit ?_ | refine W.region tab_ok b (by decide) (exec_run (by simp only [exa, beq_self_eq_true, ByteArray.size, Nat.reduceAdd, Nat.reduceLeDiff, Nat.reduceEqDiff, Nat.reduceMul, Int.reduceToNat, reduceIte, Int.reduceLE, Int.reduceNeg, hp, hq, setO, wordsO, cW_len]; rfl)) ?_)
  refine W.loop (ι := Nat) (fun k => ⟨upd (upd (upd (upd (upd (upd (fun _ => .top) 0 (.ptr p 0)) 1 (.ptr p' 0)) 4 (.c (.bool (chgB S (orF S U) k)))) 10 (.own q)) 11 (.c (.int .i64 (nw n)))) 12 (.c (.int .i64 k)), upd M q (some (.mrow 63 1 (cW (mixF S (orF S U) k) (nw n))))⟩) (fun k => k ≤ nw n) (fun k => nw n - k) 0 ?start (Nat.zero_le _) ?round
  case start =>
    refine le_mk ?sle ?mle ?swf ?mwf (kept _) (by rfl)
    case swf => repeat (first | exact swf_top _ | refine swf_upd ?_ (by simp [A.ids, upd_app, hp, hp', hq, hpq, hp'q]))
    case mwf => exact mwf_some hWF (fun i hi => by simp [O.ids] at hi)
    case sle => repeat (first | exact sle_top _ | exact sle_refl _ | refine sle_upd ?_ (by first | rfl | (simp only [upd_app, killS_app, A.kill, entry_zero, entry_succ, Nat.reduceEqDiff, reduceIte]; done)))
    case mle => exact mle_refl' (upd_id M (by rw [hq, cW_zeroMix]; rfl)).symm
  case round =>
    intro k hk
    repeat (first | refine W.seq ?_ | refine W.block ?_ | refine W.skip ?_ | refine W.exit ?_ | refine W.region tab_ok b (by decide) (exec_run (by simp only [exa, beq_self_eq_true, ByteArray.size, Nat.reduceAdd, Nat.reduceLeDiff, Nat.reduceEqDiff, Nat.reduceMul, Int.reduceToNat, reduceIte, Int.reduceLE, Int.reduceNeg]; rfl)) ?_)
    refine W.cond rfl ?_ ?_
    · intro hlt
      simp only [decide_eq_true_eq, Int.ofNat_lt] at hlt
      have hmk : wd (mixF S (orF S U) k) k = wd S k := by rw [wd_mix, if_neg (by omega)]
      have hk1 : (cW (mixF S (orF S U) k) (nw n))[k]? = some [.int .u64 (wd S k : Nat)] := by rw [cW_at hlt, hmk]
      have hk2 : (cW (mixF S (orF S U) (k + 1)) (nw n))[k]? = some [.int .u64 (wd (orF S U) k : Nat)] := by rw [cW_at hlt, wd_mix, if_pos (by omega)]
      repeat (first | refine W.seq ?_ | refine W.block ?_ | refine W.skip ?_ | refine W.exit ?_ | refine W.region tab_ok b (by decide) (exec_run (by simp only [exa, beq_self_eq_true, ByteArray.size, Nat.reduceAdd, Nat.reduceLeDiff, Nat.reduceEqDiff, Nat.reduceMul, Int.reduceToNat, reduceIte, Int.reduceLE, Int.reduceNeg, cW_len, hk1, hlt, Int.toNat_natCast, and_self]; rfl)) ?_)
      (repeat (first | refine W.seq ?_ | refine W.block ?_ | refine W.skip ?_ | refine W.exit ?_))
      refine W.regionDK tab_ok b follows_mixed (by kernel_rfl) (by decide) ?_
      refine runk_split 13 (by simp only [exa, beq_self_eq_true, ByteArray.size, Nat.reduceAdd, Nat.reduceLeDiff, Nat.reduceEqDiff, Nat.reduceMul, Int.reduceToNat, reduceIte, Int.reduceLE, Int.reduceNeg, hp, hq, setO, hpq, cW_len, hk1, hlt, Int.toNat_natCast, and_self]; rfl) ?_
      refine runk_callR rfl rfl rfl rfl rfl (by simp) (cvrs_cons (cvr_ptr (ty := 62) (cells := [.c (.int .i64 n), .own q']) (xs := [.int .i64 n, .sl (cW U (nw n))]) (by simp only [exa, beq_self_eq_true, ByteArray.size, Nat.reduceAdd, Nat.reduceLeDiff, Nat.reduceEqDiff, Nat.reduceMul, Int.reduceToNat, reduceIte, Int.reduceLE, Int.reduceNeg, hp'q, hp']; rfl) (by simp only [asLs, asL, asC, exa, beq_self_eq_true, ByteArray.size, Nat.reduceAdd, Nat.reduceLeDiff, Nat.reduceEqDiff, Nat.reduceMul, Int.reduceToNat, reduceIte, Int.reduceLE, Int.reduceNeg, hq'q, hq', wordsO])) (cvrs_cons cvr_refl (cvrs_cons cvr_refl cvrs_nil))) (by rfl) (by rfl) (fun m => hword k hlt m) ?_
      have hset := cW_mixSet (R := S) (S := orF S U) hlt
      have hbit : IntKind.u64.wrap ((BitVec.ofInt IntKind.u64.bits ((wd S k : Nat) : Int) ||| BitVec.ofInt IntKind.u64.bits ((wd U k : Nat) : Int)).toNat : Int) = ((wd (orF S U) k : Nat) : Int) := by
        have h := bits_or_u64_nat (wd S k) (wd U k) (wd_lt _ _) (wd_lt _ _)
        rw [wd_or] at h
        exact h
      refine runk_exec (by simp only [exa, beq_self_eq_true, ByteArray.size, Nat.reduceAdd, Nat.reduceLeDiff, Nat.reduceEqDiff, Nat.reduceMul, Int.reduceToNat, reduceIte, Int.reduceLE, Int.reduceNeg, hp, hq, setO, hpq, cW_len, hk1, hlt, Int.toNat_natCast, and_self, hbit, hset, upd_upd]; rfl) ?_
      cases hc : chgB S (orF S U) k with
      | true =>
        have hnext : chgB S (orF S U) (k + 1) = true := by rw [chg_succ, hc]; rfl
        repeat (first | refine W.seq ?_ | refine W.block ?_ | refine W.skip ?_ | refine W.exit ?_ | refine W.region tab_ok b (by decide) (exec_run (by simp only [exa, beq_self_eq_true, ByteArray.size, Nat.reduceAdd, Nat.reduceLeDiff, Nat.reduceEqDiff, Nat.reduceMul, Int.reduceToNat, reduceIte, Int.reduceLE, Int.reduceNeg, hc]; rfl)) ?_)
        refine ⟨k + 1, hlt, by omega, ?_⟩
        refine le_mk ?sle ?mle ?swf ?mwf (kept _) (by rfl)
        case swf => repeat (first | exact swf_top _ | refine swf_upd ?_ (by simp [A.ids, upd_app, hp, hp', hq, hpq, hp'q]))
        case mwf => exact mwf_some hWF (fun i hi => by simp [O.ids] at hi)
        case sle => repeat (first | exact sle_top _ | exact sle_refl _ | refine sle_upd ?_ (by first | rfl | (simp only [upd_app, killS_app, A.kill, entry_zero, entry_succ, Nat.reduceEqDiff, reduceIte, hnext, wrap_succ (show k + 1 < 9223372036854775808 by omega)]; done)))
        case mle => exact mle_refl' (by first | rfl | simp only [upd_upd])
      | false =>
        by_cases he : wd (orF S U) k = wd S k
        · have hnext : chgB S (orF S U) (k + 1) = false := by rw [chg_succ, hc, he]; simp
          have he' := eq_true (show ((wd (orF S U) k : Nat) : Int) = ((wd S k : Nat) : Int) by omega)
          repeat (first | refine W.seq ?_ | refine W.block ?_ | refine W.skip ?_ | refine W.exit ?_ | refine W.region tab_ok b (by decide) (exec_run (by simp only [exa, beq_self_eq_true, ByteArray.size, Nat.reduceAdd, Nat.reduceLeDiff, Nat.reduceEqDiff, Nat.reduceMul, Int.reduceToNat, reduceIte, Int.reduceLE, Int.reduceNeg, hc, hp, hq, setO, hpq, cW_len, hk2, hlt, Int.toNat_natCast, and_self, he', decide_true, Bool.not_true, not_true_eq_false, decide_false, bne_self_eq_false]; rfl)) ?_)
          refine ⟨k + 1, hlt, by omega, ?_⟩
          refine le_mk ?sle ?mle ?swf ?mwf (kept _) (by rfl)
          case swf => repeat (first | exact swf_top _ | refine swf_upd ?_ (by simp [A.ids, upd_app, hp, hp', hq, hpq, hp'q]))
          case mwf => exact mwf_some hWF (fun i hi => by simp [O.ids] at hi)
          case sle => repeat (first | exact sle_top _ | exact sle_refl _ | refine sle_upd ?_ (by first | rfl | (simp only [upd_app, killS_app, A.kill, entry_zero, entry_succ, Nat.reduceEqDiff, reduceIte, hnext, wrap_succ (show k + 1 < 9223372036854775808 by omega)]; done)))
          case mle => exact mle_refl' (by first | rfl | simp only [upd_upd])
        · have hnext : chgB S (orF S U) (k + 1) = true := by rw [chg_succ, hc]; simp [he]
          have he' := eq_false (show ¬ ((wd (orF S U) k : Nat) : Int) = ((wd S k : Nat) : Int) by omega)
          repeat (first | refine W.seq ?_ | refine W.block ?_ | refine W.skip ?_ | refine W.exit ?_ | refine W.region tab_ok b (by decide) (exec_run (by simp only [exa, beq_self_eq_true, ByteArray.size, Nat.reduceAdd, Nat.reduceLeDiff, Nat.reduceEqDiff, Nat.reduceMul, Int.reduceToNat, reduceIte, Int.reduceLE, Int.reduceNeg, hc, hp, hq, setO, hpq, cW_len, hk2, hlt, Int.toNat_natCast, and_self, he', decide_false, Bool.not_false, not_false_eq_true, decide_true]; rfl)) ?_)
          refine ⟨k + 1, hlt, by omega, ?_⟩
          refine le_mk ?sle ?mle ?swf ?mwf (kept _) (by rfl)
          case swf => repeat (first | exact swf_top _ | refine swf_upd ?_ (by simp [A.ids, upd_app, hp, hp', hq, hpq, hp'q]))
          case mwf => exact mwf_some hWF (fun i hi => by simp [O.ids] at hi)
          case sle => repeat (first | exact sle_top _ | exact sle_refl _ | refine sle_upd ?_ (by first | rfl | (simp only [upd_app, killS_app, A.kill, entry_zero, entry_succ, Nat.reduceEqDiff, reduceIte, hnext, wrap_succ (show k + 1 < 9223372036854775808 by omega)]; done)))
          case mle => exact mle_refl' (by first | rfl | simp only [upd_upd])
    · intro hge
      simp only [decide_eq_false_iff_not, Int.ofNat_lt] at hge
      obtain rfl : k = nw n := by omega
      repeat (first | refine W.seq ?_ | refine W.block ?_ | refine W.skip ?_ | refine W.exit ?_ | refine W.region tab_ok b (by decide) (exec_run (by simp only [exa, beq_self_eq_true, ByteArray.size, Nat.reduceAdd, Nat.reduceLeDiff, Nat.reduceEqDiff, Nat.reduceMul, Int.reduceToNat, reduceIte, Int.reduceLE, Int.reduceNeg]; rfl)) ?_)
      refine W.ret ⟨.inr rfl, by rfl, ?_, ?mle⟩
      simp only [Tryd.f21, resE, resOne, fin, toT, exa, beq_self_eq_true, ByteArray.size, Nat.reduceAdd, Nat.reduceLeDiff, Nat.reduceEqDiff, Nat.reduceMul, Int.reduceToNat, reduceIte, Int.reduceLE, Int.reduceNeg]
      case mle => exact mle_refl' (by rw [cW_mixAll]; rfl)
theorem meet_ok (n : Nat) (hn : n ≤ 1000000) (S U : Nat → Bool) (hU : ∀ i, U i = true → i < n) (M : Mem) (b p q p' q' : Nat) (hM : ∀ d, M (b + d) = none) (hp : M p = some (setO n q)) (hq : M q = some (wordsO n S)) (hp' : M p' = some (setO n q')) (hq' : M q' = some (wordsO n U)) (hqq : q ≠ q') :
    CallE Tryd.prog 40 [.ptr p 0, .ptr p' 0] M [] (.c (.bool (chgB S (andF S U) (nw n)))) (upd M q (some (wordsO n (andF S U)))) := by
  have hnw := nw_le hn
  refine (ok_eff tab_ok [] Tryd.func40 (by kernel_rfl) rfl rfl (by rfl) (by rfl) ?ids ?res ?sub ?wfm (fun hWF Rr hkeep => ?_))
  case ids => intro a ha j hj; simp at ha; rcases ha with rfl | rfl <;> simp [A.ids] at hj <;> subst hj <;> simp [hp, hp']
  case res => intro j hj; simp [A.ids] at hj
  case sub => exact fun j hj => live_upd j hj
  case wfm => exact fun hw => mwf_some hw (fun i hi => by simp [wordsO, O.ids] at hi)
  have hpq : (p = q) = False := eq_false fun e => by subst e; rw [hp] at hq; simp [setO, wordsO] at hq
  have hp'q : (p' = q) = False := eq_false fun e => by subst e; rw [hp'] at hq; simp [setO, wordsO] at hq
  have hq'q : (q' = q) = False := eq_false (Ne.symm hqq)
  have hword := fun i hi m => word_ok n hn U hU i hi m
  have kept : ∀ x, ∀ j, Rr.keep j → ((upd M q (some x)) j).isSome = true := fun x j hj => by rw [hkeep] at hj; exact live_upd j hj.1
  repeat (first | refine W.seq ?_ | refine W.block ?_ | refine W.skip ?_ | refine W.exit ?_ | refine W.region tab_ok b (by decide) (exec_run (by simp only [exa, beq_self_eq_true, ByteArray.size, Nat.reduceAdd, Nat.reduceLeDiff, Nat.reduceEqDiff, Nat.reduceMul, Int.reduceToNat, reduceIte, Int.reduceLE, Int.reduceNeg, hp, hq, setO, wordsO, cW_len]; rfl)) ?_)
  refine W.loop (ι := Nat) (fun k => ⟨upd (upd (upd (upd (upd (upd (fun _ => .top) 0 (.ptr p 0)) 1 (.ptr p' 0)) 4 (.c (.bool (chgB S (andF S U) k)))) 10 (.own q)) 11 (.c (.int .i64 (nw n)))) 12 (.c (.int .i64 k)), upd M q (some (.mrow 63 1 (cW (mixF S (andF S U) k) (nw n))))⟩) (fun k => k ≤ nw n) (fun k => nw n - k) 0 ?start (Nat.zero_le _) ?round
  case start =>
    refine le_mk ?sle ?mle ?swf ?mwf (kept _) (by rfl)
    case swf => repeat (first | exact swf_top _ | refine swf_upd ?_ (by simp [A.ids, upd_app, hp, hp', hq, hpq, hp'q]))
    case mwf => exact mwf_some hWF (fun i hi => by simp [O.ids] at hi)
    case sle => repeat (first | exact sle_top _ | exact sle_refl _ | refine sle_upd ?_ (by first | rfl | (simp only [upd_app, killS_app, A.kill, entry_zero, entry_succ, Nat.reduceEqDiff, reduceIte]; done)))
    case mle => exact mle_refl' (upd_id M (by rw [hq, cW_zeroMix]; rfl)).symm
  case round =>
    intro k hk
    repeat (first | refine W.seq ?_ | refine W.block ?_ | refine W.skip ?_ | refine W.exit ?_ | refine W.region tab_ok b (by decide) (exec_run (by simp only [exa, beq_self_eq_true, ByteArray.size, Nat.reduceAdd, Nat.reduceLeDiff, Nat.reduceEqDiff, Nat.reduceMul, Int.reduceToNat, reduceIte, Int.reduceLE, Int.reduceNeg]; rfl)) ?_)
    refine W.cond rfl ?_ ?_
    · intro hlt
      simp only [decide_eq_true_eq, Int.ofNat_lt] at hlt
      have hmk : wd (mixF S (andF S U) k) k = wd S k := by rw [wd_mix, if_neg (by omega)]
      have hk1 : (cW (mixF S (andF S U) k) (nw n))[k]? = some [.int .u64 (wd S k : Nat)] := by rw [cW_at hlt, hmk]
      have hk2 : (cW (mixF S (andF S U) (k + 1)) (nw n))[k]? = some [.int .u64 (wd (andF S U) k : Nat)] := by rw [cW_at hlt, wd_mix, if_pos (by omega)]
      repeat (first | refine W.seq ?_ | refine W.block ?_ | refine W.skip ?_ | refine W.exit ?_ | refine W.region tab_ok b (by decide) (exec_run (by simp only [exa, beq_self_eq_true, ByteArray.size, Nat.reduceAdd, Nat.reduceLeDiff, Nat.reduceEqDiff, Nat.reduceMul, Int.reduceToNat, reduceIte, Int.reduceLE, Int.reduceNeg, cW_len, hk1, hlt, Int.toNat_natCast, and_self]; rfl)) ?_)
      (repeat (first | refine W.seq ?_ | refine W.block ?_ | refine W.skip ?_ | refine W.exit ?_))
      refine W.regionDK tab_ok b follows_mixed (by kernel_rfl) (by decide) ?_
      refine runk_split 13 (by simp only [exa, beq_self_eq_true, ByteArray.size, Nat.reduceAdd, Nat.reduceLeDiff, Nat.reduceEqDiff, Nat.reduceMul, Int.reduceToNat, reduceIte, Int.reduceLE, Int.reduceNeg, hp, hq, setO, hpq, cW_len, hk1, hlt, Int.toNat_natCast, and_self]; rfl) ?_
      refine runk_callR rfl rfl rfl rfl rfl (by simp) (cvrs_cons (cvr_ptr (ty := 62) (cells := [.c (.int .i64 n), .own q']) (xs := [.int .i64 n, .sl (cW U (nw n))]) (by simp only [exa, beq_self_eq_true, ByteArray.size, Nat.reduceAdd, Nat.reduceLeDiff, Nat.reduceEqDiff, Nat.reduceMul, Int.reduceToNat, reduceIte, Int.reduceLE, Int.reduceNeg, hp'q, hp']; rfl) (by simp only [asLs, asL, asC, exa, beq_self_eq_true, ByteArray.size, Nat.reduceAdd, Nat.reduceLeDiff, Nat.reduceEqDiff, Nat.reduceMul, Int.reduceToNat, reduceIte, Int.reduceLE, Int.reduceNeg, hq'q, hq', wordsO])) (cvrs_cons cvr_refl (cvrs_cons cvr_refl cvrs_nil))) (by rfl) (by rfl) (fun m => hword k hlt m) ?_
      have hset := cW_mixSet (R := S) (S := andF S U) hlt
      have hbit : IntKind.u64.wrap ((BitVec.ofInt IntKind.u64.bits ((wd S k : Nat) : Int) &&& BitVec.ofInt IntKind.u64.bits ((wd U k : Nat) : Int)).toNat : Int) = ((wd (andF S U) k : Nat) : Int) := by
        have h := bits_and_u64_nat (wd S k) (wd U k) (wd_lt _ _) (wd_lt _ _)
        rw [wd_and] at h
        exact h
      refine runk_exec (by simp only [exa, beq_self_eq_true, ByteArray.size, Nat.reduceAdd, Nat.reduceLeDiff, Nat.reduceEqDiff, Nat.reduceMul, Int.reduceToNat, reduceIte, Int.reduceLE, Int.reduceNeg, hp, hq, setO, hpq, cW_len, hk1, hlt, Int.toNat_natCast, and_self, hbit, hset, upd_upd]; rfl) ?_
      cases hc : chgB S (andF S U) k with
      | true =>
        have hnext : chgB S (andF S U) (k + 1) = true := by rw [chg_succ, hc]; rfl
        repeat (first | refine W.seq ?_ | refine W.block ?_ | refine W.skip ?_ | refine W.exit ?_ | refine W.region tab_ok b (by decide) (exec_run (by simp only [exa, beq_self_eq_true, ByteArray.size, Nat.reduceAdd, Nat.reduceLeDiff, Nat.reduceEqDiff, Nat.reduceMul, Int.reduceToNat, reduceIte, Int.reduceLE, Int.reduceNeg, hc]; rfl)) ?_)
        refine ⟨k + 1, hlt, by omega, ?_⟩
        refine le_mk ?sle ?mle ?swf ?mwf (kept _) (by rfl)
        case swf => repeat (first | exact swf_top _ | refine swf_upd ?_ (by simp [A.ids, upd_app, hp, hp', hq, hpq, hp'q]))
        case mwf => exact mwf_some hWF (fun i hi => by simp [O.ids] at hi)
        case sle => repeat (first | exact sle_top _ | exact sle_refl _ | refine sle_upd ?_ (by first | rfl | (simp only [upd_app, killS_app, A.kill, entry_zero, entry_succ, Nat.reduceEqDiff, reduceIte, hnext, wrap_succ (show k + 1 < 9223372036854775808 by omega)]; done)))
        case mle => exact mle_refl' (by first | rfl | simp only [upd_upd])
      | false =>
        by_cases he : wd (andF S U) k = wd S k
        · have hnext : chgB S (andF S U) (k + 1) = false := by rw [chg_succ, hc, he]; simp
          have he' := eq_true (show ((wd (andF S U) k : Nat) : Int) = ((wd S k : Nat) : Int) by omega)
          repeat (first | refine W.seq ?_ | refine W.block ?_ | refine W.skip ?_ | refine W.exit ?_ | refine W.region tab_ok b (by decide) (exec_run (by simp only [exa, beq_self_eq_true, ByteArray.size, Nat.reduceAdd, Nat.reduceLeDiff, Nat.reduceEqDiff, Nat.reduceMul, Int.reduceToNat, reduceIte, Int.reduceLE, Int.reduceNeg, hc, hp, hq, setO, hpq, cW_len, hk2, hlt, Int.toNat_natCast, and_self, he', decide_true, Bool.not_true, not_true_eq_false, decide_false, bne_self_eq_false]; rfl)) ?_)
          refine ⟨k + 1, hlt, by omega, ?_⟩
          refine le_mk ?sle ?mle ?swf ?mwf (kept _) (by rfl)
          case swf => repeat (first | exact swf_top _ | refine swf_upd ?_ (by simp [A.ids, upd_app, hp, hp', hq, hpq, hp'q]))
          case mwf => exact mwf_some hWF (fun i hi => by simp [O.ids] at hi)
          case sle => repeat (first | exact sle_top _ | exact sle_refl _ | refine sle_upd ?_ (by first | rfl | (simp only [upd_app, killS_app, A.kill, entry_zero, entry_succ, Nat.reduceEqDiff, reduceIte, hnext, wrap_succ (show k + 1 < 9223372036854775808 by omega)]; done)))
          case mle => exact mle_refl' (by first | rfl | simp only [upd_upd])
        · have hnext : chgB S (andF S U) (k + 1) = true := by rw [chg_succ, hc]; simp [he]
          have he' := eq_false (show ¬ ((wd (andF S U) k : Nat) : Int) = ((wd S k : Nat) : Int) by omega)
          repeat (first | refine W.seq ?_ | refine W.block ?_ | refine W.skip ?_ | refine W.exit ?_ | refine W.region tab_ok b (by decide) (exec_run (by simp only [exa, beq_self_eq_true, ByteArray.size, Nat.reduceAdd, Nat.reduceLeDiff, Nat.reduceEqDiff, Nat.reduceMul, Int.reduceToNat, reduceIte, Int.reduceLE, Int.reduceNeg, hc, hp, hq, setO, hpq, cW_len, hk2, hlt, Int.toNat_natCast, and_self, he', decide_false, Bool.not_false, not_false_eq_true, decide_true]; rfl)) ?_)
          refine ⟨k + 1, hlt, by omega, ?_⟩
          refine le_mk ?sle ?mle ?swf ?mwf (kept _) (by rfl)
          case swf => repeat (first | exact swf_top _ | refine swf_upd ?_ (by simp [A.ids, upd_app, hp, hp', hq, hpq, hp'q]))
          case mwf => exact mwf_some hWF (fun i hi => by simp [O.ids] at hi)
          case sle => repeat (first | exact sle_top _ | exact sle_refl _ | refine sle_upd ?_ (by first | rfl | (simp only [upd_app, killS_app, A.kill, entry_zero, entry_succ, Nat.reduceEqDiff, reduceIte, hnext, wrap_succ (show k + 1 < 9223372036854775808 by omega)]; done)))
          case mle => exact mle_refl' (by first | rfl | simp only [upd_upd])
    · intro hge
      simp only [decide_eq_false_iff_not, Int.ofNat_lt] at hge
      obtain rfl : k = nw n := by omega
      repeat (first | refine W.seq ?_ | refine W.block ?_ | refine W.skip ?_ | refine W.exit ?_ | refine W.region tab_ok b (by decide) (exec_run (by simp only [exa, beq_self_eq_true, ByteArray.size, Nat.reduceAdd, Nat.reduceLeDiff, Nat.reduceEqDiff, Nat.reduceMul, Int.reduceToNat, reduceIte, Int.reduceLE, Int.reduceNeg]; rfl)) ?_)
      refine W.ret ⟨.inr rfl, by rfl, ?_, ?mle⟩
      simp only [Tryd.f40, resE, resOne, fin, toT, exa, beq_self_eq_true, ByteArray.size, Nat.reduceAdd, Nat.reduceLeDiff, Nat.reduceEqDiff, Nat.reduceMul, Int.reduceToNat, reduceIte, Int.reduceLE, Int.reduceNeg]
      case mle => exact mle_refl' (by rw [cW_mixAll]; rfl)
end V
end Go.Proofs.YtcldeoolglhdoaaDoor
end
section
set_option linter.unusedVariables false
set_option linter.unusedSimpArgs false
namespace Go.Proofs.YtcldeoolglhdoaaDoor
namespace V
open Go.RowKit
noncomputable def iteC {α : Type} (c : Prop) (a b : α) : α := @ite α c (Classical.propDecidable c) a b
theorem iteC_pos {α : Type} {c : Prop} {a b : α} (h : c) : iteC c a b = a := if_pos h
theorem iteC_neg {α : Type} {c : Prop} {a b : α} (h : ¬ c) : iteC c a b = b := if_neg h
def bN (k : Nat) : Nat := 100 + 13 * k
def wN (k : Nat) : Nat := 100 + 13 * k + 10
def sN (k : Nat) : Nat := 100 + 13 * k + 12
theorem bN_w (k : Nat) : bN k + 10 = wN k := rfl
theorem bN_s (k : Nat) : bN k + 12 = sN k := rfl
theorem wN_inj {a b : Nat} : (wN a = wN b) = (a = b) := propext ⟨fun h => by unfold wN at h; omega, fun h => by rw [h]⟩
theorem sw_ne {a b : Nat} : (sN a = wN b) = False := eq_false (by unfold wN sN; omega)
noncomputable def setsM (K N : Nat) (F : Nat → Nat → Bool) (M : Mem) : Mem := fun j =>
  iteC (∃ k, k < K ∧ j = wN k) (some (wordsO N (F ((j - 110) / 13)))) (iteC (∃ k, k < K ∧ j = sN k) (some (setO N (wN ((j - 112) / 13)))) (M j))
def setF (F : Nat → Nat → Bool) (k : Nat) (S : Nat → Bool) : Nat → Nat → Bool := fun i => if i = k then S else F i
section
variable {K N : Nat} {F : Nat → Nat → Bool} {M : Mem}
theorem setsM_w {k : Nat} (h : k < K) : setsM K N F M (wN k) = some (wordsO N (F k)) := by
  unfold setsM
  rw [iteC_pos ⟨k, h, rfl⟩]
  congr 3
  unfold wN; omega
theorem setsM_s {k : Nat} (h : k < K) : setsM K N F M (sN k) = some (setO N (wN k)) := by
  unfold setsM
  rw [iteC_neg (fun ⟨q, _, e⟩ => by rw [sw_ne] at e; exact e), iteC_pos ⟨k, h, rfl⟩]
  congr 3
  unfold sN; omega
theorem setsM_ne {j : Nat} (h : ∀ k, k < K → j ≠ wN k ∧ j ≠ sN k) : setsM K N F M j = M j := by
  unfold setsM
  rw [iteC_neg (fun ⟨q, hq, e⟩ => (h q hq).1 e), iteC_neg (fun ⟨q, hq, e⟩ => (h q hq).2 e)]
theorem setsM_lo {j : Nat} (h : j < 100) : setsM K N F M j = M j := setsM_ne fun k _ => ⟨by unfold wN; omega, by unfold sN; omega⟩
theorem setsM_cases {j : Nat} {o : O} (h : setsM K N F M j = some o) : (∃ k, k < K ∧ j = wN k ∧ o = wordsO N (F k)) ∨ (∃ k, k < K ∧ j = sN k ∧ o = setO N (wN k)) ∨ ((∀ k, k < K → j ≠ wN k ∧ j ≠ sN k) ∧ M j = some o) := by
  by_cases h1 : ∃ k, k < K ∧ j = wN k
  · obtain ⟨k, hk, rfl⟩ := h1
    rw [setsM_w hk] at h; cases h
    exact .inl ⟨k, hk, rfl, rfl⟩
  · by_cases h2 : ∃ k, k < K ∧ j = sN k
    · obtain ⟨k, hk, rfl⟩ := h2
      rw [setsM_s hk] at h; cases h
      exact .inr (.inl ⟨k, hk, rfl, rfl⟩)
    · have hno : ∀ k, k < K → j ≠ wN k ∧ j ≠ sN k := fun k hk => ⟨fun e => h1 ⟨k, hk, e⟩, fun e => h2 ⟨k, hk, e⟩⟩
      rw [setsM_ne hno] at h
      exact .inr (.inr ⟨hno, h⟩)
theorem setsM_far (hM : ∀ j, 100 ≤ j → M j = none) (d : Nat) : setsM K N F M (bN K + d) = none := by
  rw [setsM_ne fun k hk => ⟨by unfold bN wN; omega, by unfold bN sN; omega⟩]
  exact hM _ (by unfold bN; omega)
theorem setsM_congr {F' : Nat → Nat → Bool} (h : ∀ k, k < K → F k = F' k) : setsM K N F M = setsM K N F' M := by
  funext j
  by_cases h1 : ∃ k, k < K ∧ j = wN k
  · obtain ⟨k, hk, rfl⟩ := h1
    rw [setsM_w hk, setsM_w hk, h k hk]
  · by_cases h2 : ∃ k, k < K ∧ j = sN k
    · obtain ⟨k, hk, rfl⟩ := h2
      rw [setsM_s hk, setsM_s hk]
    · have hno : ∀ k, k < K → j ≠ wN k ∧ j ≠ sN k := fun k hk => ⟨fun e => h1 ⟨k, hk, e⟩, fun e => h2 ⟨k, hk, e⟩⟩
      rw [setsM_ne hno, setsM_ne hno]
theorem setsM_zero : setsM 0 N F M = M := by
  funext j
  exact setsM_ne fun k hk => by omega
theorem setsM_new {S : Nat → Bool} : upd (upd (setsM K N F M) (wN K) (some (wordsO N S))) (sN K) (some (setO N (wN K))) = setsM (K + 1) N (setF F K S) M := by
  funext j
  by_cases e1 : j = sN K
  · subst e1; rw [upd_same, setsM_s (by omega)]
  · rw [upd_ne _ _ e1]
    by_cases e2 : j = wN K
    · subst e2; rw [upd_same, setsM_w (by omega)]; unfold setF; rw [if_pos rfl]
    · rw [upd_ne _ _ e2]
      by_cases h1 : ∃ k, k < K ∧ j = wN k
      · obtain ⟨k, hk, rfl⟩ := h1
        rw [setsM_w hk, setsM_w (by omega)]; unfold setF; rw [if_neg (by omega)]
      · by_cases h2 : ∃ k, k < K ∧ j = sN k
        · obtain ⟨k, hk, rfl⟩ := h2
          rw [setsM_s hk, setsM_s (by omega)]
        · rw [setsM_ne fun k hk => ⟨fun e => h1 ⟨k, hk, e⟩, fun e => h2 ⟨k, hk, e⟩⟩, setsM_ne fun k hk => ?_]
          by_cases e : k = K
          · subst e; exact ⟨e2, e1⟩
          · exact ⟨fun q => h1 ⟨k, by omega, q⟩, fun q => h2 ⟨k, by omega, q⟩⟩
theorem setsM_turn {k : Nat} {S : Nat → Bool} (h : k < K) : upd (setsM K N F M) (wN k) (some (wordsO N S)) = setsM K N (setF F k S) M := by
  funext j
  by_cases e : j = wN k
  · subst e; rw [upd_same, setsM_w h]; unfold setF; rw [if_pos rfl]
  · rw [upd_ne _ _ e]
    by_cases h1 : ∃ k, k < K ∧ j = wN k
    · obtain ⟨q, hq, rfl⟩ := h1
      rw [setsM_w hq, setsM_w hq]; unfold setF; rw [if_neg (fun q => e (by rw [q]))]
    · by_cases h2 : ∃ k, k < K ∧ j = sN k
      · obtain ⟨q, hq, rfl⟩ := h2
        rw [setsM_s hq, setsM_s hq]
      · have hno : ∀ k, k < K → j ≠ wN k ∧ j ≠ sN k := fun k hk => ⟨fun e => h1 ⟨k, hk, e⟩, fun e => h2 ⟨k, hk, e⟩⟩
        rw [setsM_ne hno, setsM_ne hno]
theorem setsM_upd {j : Nat} {x : Option O} (h : j < 100) : upd (setsM K N F M) j x = setsM K N F (upd M j x) := by
  funext i
  by_cases e : i = j
  · subst e; rw [upd_same, setsM_lo h, upd_same]
  · rw [upd_ne _ _ e]
    by_cases h1 : ∃ k, k < K ∧ i = wN k
    · obtain ⟨q, hq, rfl⟩ := h1
      rw [setsM_w hq, setsM_w hq]
    · by_cases h2 : ∃ k, k < K ∧ i = sN k
      · obtain ⟨q, hq, rfl⟩ := h2
        rw [setsM_s hq, setsM_s hq]
      · have hno : ∀ k, k < K → i ≠ wN k ∧ i ≠ sN k := fun k hk => ⟨fun e => h1 ⟨k, hk, e⟩, fun e => h2 ⟨k, hk, e⟩⟩
        rw [setsM_ne hno, setsM_ne hno, upd_ne _ _ e]
theorem setsM_drop (hM : ∀ j, 100 ≤ j → M j = none) : MLe (setsM (K + 1) N F M) (setsM K N F M) := fun j => by
  cases hj : setsM K N F M j with
  | none => exact .inl rfl
  | some o =>
    right
    rw [← hj]
    rcases setsM_cases hj with ⟨k, hk, rfl, -⟩ | ⟨k, hk, rfl, -⟩ | ⟨hno, h⟩
    · rw [setsM_w hk, setsM_w (by omega)]
    · rw [setsM_s hk, setsM_s (by omega)]
    · have hlo : j < 100 := Nat.lt_of_not_le fun q => by rw [hM j q] at h; cases h
      rw [setsM_lo hlo, setsM_lo hlo]
theorem setsM_wf (h : ∀ id o, M id = some o → ∀ j ∈ o.ids, (setsM K N F M j).isSome = true) : WFm (setsM K N F M) := fun id o ho j hj => by
  rcases setsM_cases ho with ⟨k, hk, rfl, rfl⟩ | ⟨k, hk, rfl, rfl⟩ | ⟨-, h1⟩
  · simp [wordsO, O.ids] at hj
  · simp [setO, O.ids, A.ids] at hj
    subst hj
    rw [setsM_w hk]; rfl
  · exact h id o h1 j hj
theorem kill_setO {q id : Nat} (h : q ≠ id) : O.kill id (setO N q) = setO N q := by
  simp [setO, O.kill, A.kill, h]
theorem setsM_kill {id : Nat} (h : id < 100) : killM id (setsM K N F M) = setsM K N F (killM id M) := by
  funext i
  rw [killM_app]
  by_cases h1 : ∃ k, k < K ∧ i = wN k
  · obtain ⟨q, hq, rfl⟩ := h1
    rw [setsM_w hq, setsM_w hq]; rfl
  · by_cases h2 : ∃ k, k < K ∧ i = sN k
    · obtain ⟨q, hq, rfl⟩ := h2
      rw [setsM_s hq, setsM_s hq, Option.map_some, kill_setO (by unfold wN; omega)]
    · have hno : ∀ k, k < K → i ≠ wN k ∧ i ≠ sN k := fun k hk => ⟨fun e => h1 ⟨k, hk, e⟩, fun e => h2 ⟨k, hk, e⟩⟩
      rw [setsM_ne hno, setsM_ne hno, killM_app]
theorem setsM_isSome_w {k : Nat} (h : k < K) : (setsM K N F M (wN k)).isSome = true := by rw [setsM_w h]; rfl
theorem setsM_isSome_s {k : Nat} (h : k < K) : (setsM K N F M (sN k)).isSome = true := by rw [setsM_s h]; rfl
theorem setsM_le {M' : Mem} (h : MLe M M') (hM : ∀ j, 100 ≤ j → M' j = none) : MLe (setsM K N F M) (setsM K N F M') := fun j => by
  cases hj : setsM K N F M' j with
  | none => exact .inl rfl
  | some o =>
    right
    rw [← hj]
    rcases setsM_cases hj with ⟨k, hk, rfl, -⟩ | ⟨k, hk, rfl, -⟩ | ⟨hno, h2⟩
    · rw [setsM_w hk, setsM_w hk]
    · rw [setsM_s hk, setsM_s hk]
    · have hlo : j < 100 := Nat.lt_of_not_le fun q => by rw [hM j q] at h2; cases h2
      rw [setsM_lo hlo, setsM_lo hlo]
      rcases h j with q | q
      · rw [h2] at q; cases q
      · exact q
end
end V
end Go.Proofs.YtcldeoolglhdoaaDoor
end
section
set_option linter.unusedVariables false
set_option linter.unusedSimpArgs false
namespace Go.Proofs.YtcldeoolglhdoaaDoor
namespace V
open Go.RowKit
theorem setF_self {F : Nat → Nat → Bool} {k : Nat} {S : Nat → Bool} : setF F k S k = S := by unfold setF; rw [if_pos rfl]
theorem setF_other {F : Nat → Nat → Bool} {k i : Nat} {S : Nat → Bool} (h : i ≠ k) : setF F k S i = F i := by unfold setF; rw [if_neg h]
section
variable {K N : Nat} {F : Nat → Nat → Bool} {X : Mem} (hN : N ≤ 1000000) (hX : ∀ j, 100 ≤ j → X j = none)
include hN
include hX
theorem newM_ok : CallE Tryd.prog 18 [.c (.int .i64 N)] (setsM K N F X) [] (.ptr (sN K) 0) (setsM (K + 1) N (setF F K fun _ => false) X) := by
  have := new_ok N hN (setsM K N F X) (bN K) (setsM_far hX)
  rw [bN_w, bN_s, setsM_new] at this
  exact this
theorem cloneM_ok {k : Nat} (hk : k < K) : CallE Tryd.prog 22 [.ptr (sN k) 0] (setsM K N F X) [] (.ptr (sN K) 0) (setsM (K + 1) N (setF F K (F k)) X) := by
  have := clone_ok N hN (F k) (setsM K N F X) (bN K) (sN k) (wN k) (setsM_far hX) (setsM_s hk) (setsM_w hk)
  rw [bN_w, bN_s, setsM_new] at this
  exact this
theorem addM_ok {k : Nat} (hk : k < K) (d : Nat) : CallE Tryd.prog 19 [.ptr (sN k) 0, .c (.int .i64 d)] (setsM K N F X) [] (.c (.bool (decide (d < N) && !F k d))) (setsM K N (setF F k (if d < N then addF (F k) d else F k)) X) := by
  have := add_ok N hN (F k) d (setsM K N F X) (bN K) (sN k) (wN k) (setsM_far hX) (setsM_s hk) (setsM_w hk)
  have e : (if d < N ∧ F k d = false then upd (setsM K N F X) (wN k) (some (wordsO N (addF (F k) d))) else setsM K N F X) = setsM K N (setF F k (if d < N then addF (F k) d else F k)) X := by
    by_cases h : d < N
    · rw [if_pos h]
      by_cases h2 : F k d = false
      · rw [if_pos ⟨h, h2⟩, setsM_turn hk]
      · rw [if_neg (fun q => h2 q.2)]
        refine setsM_congr fun i _ => ?_
        unfold setF
        by_cases e : i = k
        · subst e
          rw [if_pos rfl]
          funext x
          unfold addF
          by_cases hx : x = d
          · subst hx; simpa using h2
          · simp [hx]
        · rw [if_neg e]
    · rw [if_neg (fun q => h q.1), if_neg h]
      refine setsM_congr fun i _ => ?_
      unfold setF
      split
      · rename_i e; subst e; rfl
      · rfl
  rw [e] at this
  exact this
theorem delM_ok {k : Nat} (hk : k < K) (hb : ∀ d, F k d = true → d < N) (d : Nat) : CallE Tryd.prog 25 [.ptr (sN k) 0, .c (.int .i64 d)] (setsM K N F X) [] (.c (.bool (decide (d < N) && F k d))) (setsM K N (setF F k (delF (F k) d)) X) := by
  have := del_ok N hN (F k) d (setsM K N F X) (bN K) (sN k) (wN k) (setsM_far hX) (setsM_s hk) (setsM_w hk)
  have e : (if d < N ∧ F k d = true then upd (setsM K N F X) (wN k) (some (wordsO N (delF (F k) d))) else setsM K N F X) = setsM K N (setF F k (delF (F k) d)) X := by
    by_cases h2 : F k d = true
    · rw [if_pos ⟨hb d h2, h2⟩, setsM_turn hk]
    · rw [if_neg (fun q => h2 q.2)]
      refine setsM_congr fun i _ => ?_
      unfold setF
      by_cases e : i = k
      · subst e
        rw [if_pos rfl]
        funext x
        unfold delF
        by_cases hx : x = d
        · subst hx; simpa using h2
        · simp [hx]
      · rw [if_neg e]
  rw [e] at this
  exact this
theorem unionM_ok {k i : Nat} (hk : k < K) (hi : i < K) (hki : k ≠ i) (hb : ∀ d, F i d = true → d < N) : CallE Tryd.prog 21 [.ptr (sN k) 0, .ptr (sN i) 0] (setsM K N F X) [] (.c (.bool (chgB (F k) (orF (F k) (F i)) (nw N)))) (setsM K N (setF F k (orF (F k) (F i))) X) := by
  have := union_ok N hN (F k) (F i) hb (setsM K N F X) (bN K) (sN k) (wN k) (sN i) (wN i) (setsM_far hX) (setsM_s hk) (setsM_w hk) (setsM_s hi) (setsM_w hi) (fun e => hki (by rwa [wN_inj] at e))
  rw [setsM_turn hk] at this
  exact this
theorem meetM_ok {k i : Nat} (hk : k < K) (hi : i < K) (hki : k ≠ i) (hb : ∀ d, F i d = true → d < N) : CallE Tryd.prog 40 [.ptr (sN k) 0, .ptr (sN i) 0] (setsM K N F X) [] (.c (.bool (chgB (F k) (andF (F k) (F i)) (nw N)))) (setsM K N (setF F k (andF (F k) (F i))) X) := by
  have := meet_ok N hN (F k) (F i) hb (setsM K N F X) (bN K) (sN k) (wN k) (sN i) (wN i) (setsM_far hX) (setsM_s hk) (setsM_w hk) (setsM_s hi) (setsM_w hi) (fun e => hki (by rwa [wN_inj] at e))
  rw [setsM_turn hk] at this
  exact this
theorem listM_ok {k : Nat} (hk : k < K) (hb : ∀ d, F k d = true → d < N) : CallE Tryd.prog 24 [.ptr (sN k) 0] (setsM K N F X) [] (.c (.sl ((elems (F k) N).map cN))) (setsM K N F X) :=
  list_ok N hN (F k) hb (setsM K N F X) (bN K) (sN k) (wN k) (setsM_far hX) (setsM_s hk) (setsM_w hk)
end
end V
end Go.Proofs.YtcldeoolglhdoaaDoor
end
section
set_option linter.unusedVariables false
set_option linter.unusedSimpArgs false
namespace Go.Proofs.YtcldeoolglhdoaaDoor
namespace V
open Go.RowKit
theorem compactE_len (zs : List (Int × Int)) : (Lib.compact zs).length ≤ zs.length := by
  unfold Lib.compact Lib.compactUpTo
  rw [List.length_map]
  exact Nat.le_trans (List.length_filter_le _ _) (by simp)
set_option maxHeartbeats 2000000 in
theorem compactE_ok (zs : List (Int × Int)) (hlen : zs.length ≤ 1000000000000) (M : Mem) (id : Nat) {ty : TypeId} (hM : M id = some (.mrow ty 2 (zs.map cE))) :
    CallE Tryd.prog 45 [.own id] M [id] (.own id) (upd (killM id M) id (some (.mrow ty 2 ((Lib.compact zs).map cE)))) := by
  have liv : ∀ j, (M j).isSome = true → (upd (killM id M) id (some (O.mrow ty 2 ((Lib.compact zs).map cE))) j).isSome = true := fun j hj => by
    unfold upd; split
    · rfl
    · simpa [killM_app] using hj
  refine ⟨enters_of Tryd.func45 (by kernel_rfl) rfl, fun j hj => by simp [A.ids] at hj; subst hj; rw [upd_same]; rfl, liv, fun hw i o ho j hj => ?_, ?_⟩
  · unfold upd at ho
    split at ho
    · cases ho; simp [O.ids] at hj
    · cases hi : M i with
      | none => rw [killM_app, hi] at ho; cases ho
      | some o0 =>
        rw [killM_app, hi] at ho
        cases ho
        exact liv j (hw i o0 hi j (O.kill_ids j hj))
  intro w0 I0 B I w vals hm hv
  match vals, hv with
  | [v], ⟨h1, _⟩ =>
    obtain ⟨hvB, -⟩ := h1
    subst hvB
    obtain ⟨vs, hrow, hvs, hlx, hno⟩ := hm.objs id _ hM
    rw [flat_cE] at hvs
    obtain ⟨rfl, hwf⟩ := rcs_edges hvs
    rw [List.length_map] at hrow
    obtain ⟨-, ho⟩ := hrow
    rcases ho with ⟨e, hn⟩ | ⟨g, off, cap, cur, e, hg, hnc, hmx, hsz, htk⟩
    · obtain rfl : zs = [] := List.length_eq_zero_iff.1 hn
      show Calls _ _ #[B id] w _
      rw [e]
      refine (compactE_nil w).mono ?_
      rintro e' w' ⟨rfl, rfl⟩
      obtain ⟨hm2, -⟩ := hm.rewin (id := id) (lo := 0) (hi := 0) (e := 2) (v' := .slice none 0 0) hM (Nat.zero_le _) ⟨none, 0, 0, e, Nat.le_refl _, Nat.le_refl _, by simp⟩
      refine ⟨_, _, I, rfl, hm2, Ext.refl _ _, fun j hj hd => upd_ne _ _ (fun q => hd (by simp [q])), (upd_same ..).symm, _, _, _, rfl⟩
    · have hglt : g < w.heap.size := (Array.getElem?_eq_some_iff.1 hg).1
      have hcell : ∀ j, j < zs.length * 2 → cur[off + j]? = (zs.flatMap encE)[j]? := fun j hj => by
        rw [← htk, List.getElem?_take, if_pos hj, List.getElem?_drop, Array.getElem?_toList]
      have hR : RowW w w g off ty zs.toArray := ⟨rfl, rfl, rfl, rfl, fun _ _ => rfl, cur, cur, hg, hg, rfl, by simp only [List.size_toArray]; omega, fun i hi => by
        have hi : i < zs.length := by simpa using hi
        have hz : zs.toArray[i]! = zs[i] := by simp [hi]
        have a := fm_at zs i 0 (by decide)
        have b := fm_at zs i 1 (by decide)
        rw [List.getElem?_eq_getElem hi] at a b
        rw [hz, show off + i * 2 + 1 = off + (i * 2 + 1) by omega, hcell (i * 2) (by omega), hcell (i * 2 + 1) (by omega), b]
        exact ⟨a, rfl⟩⟩
      show Calls _ _ #[B id] w _
      rw [e]
      have hcall := compactE_any g off cap ty zs.toArray w hR (by simpa using hlen) (by simpa using hnc)
      rw [List.size_toArray] at hcall
      refine hcall.mono ?_
      rintro e' w' ⟨rfl, dk, hW, hdz, hlow, hmem⟩
      have hdl : dk.toList.length = zs.length := by simpa using hdz
      have hwf' : ∀ p ∈ dk.toList, okE p := fun p hp => by
        obtain ⟨j, hj⟩ := List.getElem?_of_mem hp
        obtain ⟨hjl, hj⟩ := List.getElem?_eq_some_iff.1 hj
        have hjl : j < dk.size := by simpa using hjl
        have hpe : dk[j]! = p := by rw [getElem!_pos dk j hjl]; simpa using hj
        rcases hmem j hjl with q | q
        · rw [hpe] at q; exact hwf p (by simpa using q)
        · rw [hpe] at q; subst q; exact ⟨rfl, rfl⟩
      obtain ⟨cur', cur0, q1, q2, q3, q4, q5⟩ := hW.row
      obtain rfl : cur0 = cur := by rw [hg] at q1; cases q1; rfl
      have hf : foot B id (.mrow ty 2 (zs.map cE)) g := by show (B id).ownBlock = some g; rw [e]; rfl
      have hf' : ∀ k, foot B id (.mrow ty 2 (dk.toList.map cE)) k → k = g := fun k hk => by
        have hk : (B id).ownBlock = some k := hk
        rw [e] at hk; cases hk; rfl
      have hIg : ∀ p, ¬ I g p := fun p => hno g (by rw [e]; rfl) p
      obtain ⟨hm1, hE1⟩ := hm.turn (w' := w') (o' := .mrow ty 2 (dk.toList.map cE)) hM hf hf' hIg hW.os hW.tape hW.output hW.size hW.other (fun i hi => by simp [O.ids] at hi) (fun _ => by
        refine ⟨dk.toList.flatMap encE, ⟨by rw [fm_len, List.length_map], ?_⟩, by rw [flat_cE]; exact edges_rcs hwf', cE_len2, fun b hb p => ?_⟩
        · refine .inr ⟨g, off, cap, cur', by rw [e, List.length_map, hdl], q2, by rw [List.length_map, hdl]; exact hnc, hmx, by rw [q3]; exact hsz, ?_⟩
          refine List.ext_getElem? fun j => ?_
          rw [List.getElem?_take, List.length_map, hdl]
          split
          · rename_i hj
            have hi : j / 2 < dk.size := by rw [← Array.length_toList, hdl]; omega
            obtain ⟨a, b⟩ := q5 (j / 2) hi
            have hj2 : j % 2 = 0 ∨ j % 2 = 1 := by omega
            have hfm := fm_at dk.toList (j / 2) (j % 2) (by omega)
            rw [show j / 2 * 2 + j % 2 = j by omega] at hfm
            have hdj : dk.toList[j / 2]? = some dk[j / 2]! := by rw [getElem!_pos dk (j / 2) hi]; simp [hi]
            rw [hfm, hdj, List.getElem?_drop, Array.getElem?_toList]
            rcases hj2 with q | q
            · rw [show off + j = off + j / 2 * 2 by omega, a, q]; rfl
            · rw [show off + j = off + j / 2 * 2 + 1 by omega, b, q]; rfl
          · rename_i hj
            rw [List.getElem?_eq_none (by rw [fm_len, hdl]; omega)]
        · rw [e] at hb
          have : g = b := by simpa [Value.ownBlock] using hb
          subst this
          exact hIg p)
      have hle := compactE_len zs
      have hK : (Lib.compactUpTo zs.toArray zs.length) = Lib.compact zs := rfl
      rw [hK] at hlow ⊢
      obtain ⟨hm3, -⟩ := hm1.rewin (id := id) (lo := 0) (hi := (Lib.compact zs).length) (e := 2) (v' := .slice (some ⟨g, off, none⟩) (Lib.compact zs).length cap) (upd_same ..) (by rw [List.length_map, hdl]; exact hle) ⟨some ⟨g, off, none⟩, zs.length, cap, e, Nat.zero_le _, by omega, by simp [Addr.add]⟩
      have htake : (dk.toList.take (Lib.compact zs).length) = Lib.compact zs := by
        refine List.ext_getElem? fun j => ?_
        rw [List.getElem?_take]
        split
        · rename_i hj
          rw [hlow j hj, getElem!_pos dk j (by omega)]; simp
        · rename_i hj
          rw [List.getElem?_eq_none (by omega)]
      have hmem2 : upd (killM id (upd M id (some (O.mrow ty 2 (dk.toList.map cE))))) id (some (O.mrow ty 2 (((dk.toList.map cE).take (Lib.compact zs).length).drop 0))) = upd (killM id M) id (some (.mrow ty 2 ((Lib.compact zs).map cE))) := by
        funext j
        unfold upd
        split
        · rw [List.drop_zero, ← List.map_take, htake]
        · rename_i q; rw [killM_app, killM_app, if_neg q]
      rw [hmem2] at hm3
      exact ⟨_, _, I, rfl, hm3, hE1, fun j hj hd => upd_ne _ _ (fun q => hd (by simp [q])), (upd_same ..).symm, _, _, _, rfl⟩
end V
end Go.Proofs.YtcldeoolglhdoaaDoor
end
section
set_option linter.unusedVariables false
set_option linter.unusedSimpArgs false
namespace Go.Proofs.YtcldeoolglhdoaaDoor
namespace V
open Go.RowKit G C17 D18
theorem setsM_live {K K' N : Nat} {F F' : Nat → Nat → Bool} {M X : Mem} (hK : K ≤ K') (hl : ∀ j, (M j).isSome = true → (X j).isSome = true) : ∀ j, (setsM K N F M j).isSome = true → (setsM K' N F' X j).isSome = true := fun j hj => by
  obtain ⟨o, ho⟩ := Option.isSome_iff_exists.1 hj
  rcases setsM_cases ho with ⟨k, hk, rfl, -⟩ | ⟨k, hk, rfl, -⟩ | ⟨hno, h⟩
  · exact setsM_isSome_w (by omega)
  · exact setsM_isSome_s (by omega)
  · have := hl j (by rw [h]; rfl)
    obtain ⟨o', ho'⟩ := Option.isSome_iff_exists.1 this
    by_cases h1 : ∃ k, k < K' ∧ j = wN k
    · obtain ⟨k, hk, rfl⟩ := h1; exact setsM_isSome_w hk
    · by_cases h2 : ∃ k, k < K' ∧ j = sN k
      · obtain ⟨k, hk, rfl⟩ := h2; exact setsM_isSome_s hk
      · rw [setsM_ne fun k hk => ⟨fun e => h1 ⟨k, hk, e⟩, fun e => h2 ⟨k, hk, e⟩⟩]
        exact this
theorem setsM_wf2 {K K' N : Nat} {F F' : Nat → Nat → Bool} {M X : Mem} (hWF : WFm (setsM K N F M)) (hM : ∀ j, 100 ≤ j → M j = none) (hK : K ≤ K') (hX : ∀ id o, X id = some o → M id = some o ∨ o.ids = []) (hl : ∀ j, (M j).isSome = true → (X j).isSome = true) : WFm (setsM K' N F' X) := by
  refine setsM_wf fun id o ho j hj => ?_
  rcases hX id o ho with h | h
  · have hlo : id < 100 := Nat.lt_of_not_le fun q => by rw [hM id q] at h; cases h
    exact setsM_live hK hl j (hWF id o (by rw [setsM_lo hlo]; exact h) j hj)
  · rw [h] at hj; cases hj
theorem find_absentK {α : Type} {f : α → Int} {g : α → A1} {z : Int} : ∀ {l : List α}, (∀ x ∈ l, f x ≠ z) → findE (.c (.int .i64 z)) (l.map fun x => (A1.c (.int .i64 (f x)), g x)) = some none
  | [], _ => rfl
  | y :: l, h => by
    have ih := find_absentK (f := f) (g := g) (l := l) fun x hx => h x (List.mem_cons_of_mem _ hx)
    have hne : ¬ (z = f y) := fun e => h y (by simp) e.symm
    simp only [List.map_cons, findE, keyEq, if_true, decide_eq_false hne, ih]
theorem find_thereK {α : Type} {f : α → Int} {g : α → A1} {z : Int} {x : α} (hz : f x = z) : ∀ {l : List α}, (∀ y ∈ l, f y = z → y = x) → x ∈ l → ∃ q, findE (.c (.int .i64 z)) (l.map fun x => (A1.c (.int .i64 (f x)), g x)) = some (some (q, g x))
  | [], _, h => by cases h
  | y :: l, hu, h => by
    by_cases e : f y = z
    · obtain rfl := hu y (by simp) e
      exact ⟨0, by simp [findE, keyEq, e]⟩
    · have hx : x ∈ l := (List.mem_cons.1 h).resolve_left fun q => e (q ▸ hz)
      obtain ⟨q, h1⟩ := find_thereK (g := g) hz (l := l) (fun y hy => hu y (List.mem_cons_of_mem _ hy)) hx
      have hne : ¬ (z = f y) := fun q => e q.symm
      exact ⟨q + 1, by simp only [List.map_cons, findE, keyEq, if_true, decide_eq_false hne, h1]⟩
def ownL (rg n m : Nat) : List (A1 × A1) := (List.range m).map fun e : Nat => (A1.c (.int .i64 ((rg : Int) - 1 - e)), A1.ptr (sN (n + e)) 0)
theorem own_there {rg n m r : Nat} (hm : m ≤ rg) (hr : r < rg) (h : rg - 1 - r < m) : ∃ q, findE (.c (.int .i64 (r : Int))) (ownL rg n m) = some (some (q, .ptr (sN (n + (rg - 1 - r))) 0)) :=
  find_thereK (f := fun e : Nat => (rg : Int) - 1 - e) (g := fun e : Nat => A1.ptr (sN (n + e)) 0) (x := rg - 1 - r) (by omega) (fun y hy e => by have := List.mem_range.1 hy; omega) (List.mem_range.2 h)
theorem own_absent {rg n m r : Nat} (hm : m ≤ rg) (hr : r < rg) (h : ¬ rg - 1 - r < m) : findE (.c (.int .i64 (r : Int))) (ownL rg n m) = some none :=
  find_absentK (f := fun e : Nat => (rg : Int) - 1 - e) (g := fun e : Nat => A1.ptr (sN (n + e)) 0) fun y hy e => by have := List.mem_range.1 hy; omega
def inL (n : Nat) : List A1 := (List.range n).map fun i => A1.ptr (sN i) 0
theorem inL_at {n i : Nat} (h : i < n) : (inL n)[i]? = some (.ptr (sN i) 0) := by simp [inL, h]
theorem inL_len (n : Nat) : (inL n).length = n := by simp [inL]
theorem mem_elems {S : Nat → Bool} {N d : Nat} : d ∈ elems S N ↔ d < N ∧ S d = true := by simp [elems]
end V
namespace D18
open C17
def usC (code : List Ins) (j : Nat) : Nat := ((code.take j).map fun x => (usI x).length).sum
theorem usC_succ {code : List Ins} {j : Nat} {x : Ins} (hx : code[j]? = some x) : usC code (j + 1) = usC code j + (usI x).length := by
  unfold usC; rw [List.take_add_one, hx, List.map_append, List.sum_append]; simp
theorem usC_le (code : List Ins) : ∀ j, usC code j ≤ (code.map fun x => x.args.length).sum + 3 * code.length := fun j => by
  have key : ∀ l : List Ins, (l.map fun x => (usI x).length).sum ≤ (l.map fun x => x.args.length).sum + 3 * l.length := fun l => by
    induction l with
    | nil => simp
    | cons x l ih => have := V.usI_len x; simp only [List.map_cons, List.sum_cons, List.length_cons]; omega
  have take : ∀ (l : List Ins) (j : Nat), ((l.take j).map fun x => x.args.length).sum ≤ (l.map fun x => x.args.length).sum := fun l => by
    induction l with
    | nil => simp
    | cons x l ih =>
      intro j
      cases j with
      | zero => simp
      | succ j => have := ih j; simp only [List.take_succ_cons, List.map_cons, List.sum_cons]; omega
  have h1 := key (code.take j)
  have h2 := take code j
  have h3 : (code.take j).length ≤ code.length := by simp; omega
  unfold usC
  omega
theorem args_le {code : List Ins} {x : Ins} (hx : x ∈ code) : x.args.length ≤ (code.map fun x => x.args.length).sum := by
  induction code with
  | nil => cases hx
  | cons y l ih =>
    rw [List.map_cons, List.sum_cons]
    rcases List.mem_cons.1 hx with rfl | h
    · omega
    · have := ih h; omega
def FndP (code : List Ins) (R : Nat) (F : Nat → Nat → Bool) (j : Nat) (l : List Int) (p : Int × Int) : Prop :=
  (∃ d i : Nat, p = ((d : Int) - (R : Int), (i : Int)) ∧ i < j ∧ ∃ r : Nat, r ∈ usN code i ∧ rgD code R d = some r ∧ F i d = true) ∨ (∃ d : Nat, p = ((d : Int) - (R : Int), (j : Int)) ∧ ∃ r : Nat, (r : Int) ∈ l ∧ rgD code R d = some r ∧ F j d = true)
end D18
namespace V
open Go.RowKit G C17 D18
set_option maxHeartbeats 8000000 in
theorem edges_ok (p : Prc) (rg : Nat) (hR : p.regs = rg) (hok : okD p.code rg = true) (hsum : (p.code.map fun x => x.args.length).sum ≤ 1048576) (K : Nat) (F : Nat → Nat → Bool) (Xb : Mem) (a c : Nat) (ha : a < 60) (hc : c < 60) (hK : p.code.length + rg ≤ K) (hXb : ∀ j, 60 ≤ j → Xb j = none)
    (hin : Xb a = some (.rows 47 (inL p.code.length))) (hown : Xb c = some (.map (ownL rg p.code.length rg)))
    (hFb : ∀ k, k < K → ∀ d, F k d = true → d < rg + p.code.length) (hFo : ∀ e, e < rg → ∀ d, F (p.code.length + e) d = true ↔ rgD p.code rg d = some (rg - 1 - e))
    (hFi : ∀ j d, j < p.code.length → (rgD p.code rg d).isSome = true → (F j d = true ↔ Cm p.code rg d j)) :
    CallE Tryd.prog 27 [.agg (cP p), .own a, .map c] (setsM K (rg + p.code.length) F Xb) [] (.c (.sl ((edD p.code rg).map cE))) (setsM K (rg + p.code.length) F Xb) := by
  have hl := okD_len hok
  have hus0 := usC_le p.code
  have hargs : ∀ x ∈ p.code, x.args.length ≤ 1048576 := fun x hx => Nat.le_trans (args_le hx) hsum
  obtain ⟨cls, name, params, regs, code⟩ := p
  simp only at hR hok hl hsum hK hin hown hFb hFo hFi hus0 hargs ⊢
  subst hR
  have hcp : cP ⟨cls, name, params, rg, code⟩ = [.str cls, .str name, .int .i64 params, .int .i64 rg, .sl (code.map cIns)] := rfl
  obtain ⟨N, hN⟩ : ∃ N, N = rg + code.length := ⟨_, rfl⟩
  rw [← hN] at hFb ⊢
  have hN1 : N ≤ 1000000 := by omega
  have hX100 : ∀ j, 100 ≤ j → Xb j = none := fun j hj => hXb j (by omega)
  have lo63 : ∀ K F X, setsM K N F X 63 = X 63 := fun K F X => setsM_lo (by decide)
  have lo68 : ∀ K F X, setsM K N F X 68 = X 68 := fun K F X => setsM_lo (by decide)
  have lo70 : ∀ K F X, setsM K N F X 70 = X 70 := fun K F X => setsM_lo (by decide)
  have loa : ∀ K F X, setsM K N F X a = X a := fun K F X => setsM_lo (by omega)
  have loc : ∀ K F X, setsM K N F X c = X c := fun K F X => setsM_lo (by omega)
  have x63 := hXb 63 (by decide)
  have x68 := hXb 68 (by decide)
  have x70 := hXb 70 (by decide)
  have a63 : (a = 63) = False := eq_false (by omega)
  have a68 : (a = 68) = False := eq_false (by omega)
  have a70 : (a = 70) = False := eq_false (by omega)
  have c63 : (c = 63) = False := eq_false (by omega)
  have c68 : (c = 68) = False := eq_false (by omega)
  have c70 : (c = 70) = False := eq_false (by omega)
  refine (ok_eff tab_ok [] Tryd.func27 (by kernel_rfl) rfl rfl (by rfl) (by rfl) ?ids ?res ?sub ?wfm (fun hWF Rr hkeep => ?_))
  case ids =>
    intro y hy j hj
    simp at hy
    rcases hy with rfl | rfl | rfl <;> simp [A.ids] at hj <;> subst hj
    · rw [loa, hin]; rfl
    · rw [loc, hown]; rfl
  case res => intro j hj; simp [A.ids] at hj
  case sub => exact fun j hj => hj
  case wfm => exact fun hw => hw
  repeat (first | refine W.seq ?_ | refine W.block ?_ | refine W.skip ?_ | refine W.exit ?_ | refine W.region tab_ok 60 (by decide) (exec_run (by simp only [exa, beq_self_eq_true, ByteArray.size, Nat.reduceAdd, Nat.reduceLeDiff, Nat.reduceEqDiff, Nat.reduceMul, Int.reduceToNat, reduceIte, Int.reduceLE, Int.reduceNeg, hcp, List.map_cons, List.map_nil, lo63, x63]; rfl)) ?_)
  refine W.newM 6 70 37 2 rfl (by simp only [exa, beq_self_eq_true, ByteArray.size, Nat.reduceAdd, Nat.reduceLeDiff, Nat.reduceEqDiff, Nat.reduceMul, Int.reduceToNat, reduceIte, Int.reduceLE, Int.reduceNeg, lo70, x70]) ?_
  repeat (first | refine W.seq ?_ | refine W.block ?_ | refine W.skip ?_ | refine W.exit ?_ | refine W.region tab_ok 60 (by decide) (exec_run (by simp only [exa, beq_self_eq_true, ByteArray.size, Nat.reduceAdd, Nat.reduceLeDiff, Nat.reduceEqDiff, Nat.reduceMul, Int.reduceToNat, reduceIte, Int.reduceLE, Int.reduceNeg, lo63, List.length_map]; rfl)) ?_)
  have nk70 : ¬ Rr.keep 70 := by rw [hkeep]; rintro ⟨h, -⟩; rw [lo70, x70] at h; cases h
  have nk68 : ¬ Rr.keep 68 := by rw [hkeep]; rintro ⟨h, -⟩; rw [lo68, x68] at h; cases h
  have liveA : ∀ x y : O, ∀ j, (Xb j).isSome = true → ((upd (upd Xb 63 (some x)) 70 (some y)) j).isSome = true := fun x y j hj => live_upd j (live_upd j hj)
  have keptA : ∀ K' F' (x y : O), K ≤ K' → ∀ j, Rr.keep j → (setsM K' N F' (upd (upd Xb 63 (some x)) 70 (some y)) j).isSome = true := fun K' F' x y hKK j hj => by
    rw [hkeep] at hj
    exact setsM_live hKK (liveA x y) j hj.1
  have wfA : ∀ (x y : O), x.ids = [] → y.ids = [] → ∀ id o, (upd (upd Xb 63 (some x)) 70 (some y)) id = some o → Xb id = some o ∨ o.ids = [] := fun x y hx hy id o ho => by
    unfold upd at ho
    split at ho
    · cases ho; exact .inr hy
    · split at ho
      · cases ho; exact .inr hx
      · exact .inl ho
  have hXA : ∀ Y : List (Int × Int), ∀ j, 100 ≤ j → (upd (upd Xb 63 (some (.box 24 [.c (.str cls), .c (.str name), .c (.int .i64 params), .c (.int .i64 rg), .c (.sl (code.map cIns))]))) 70 (some (.mrow 37 2 ((Y).map cE)))) j = none := fun Y j hj => by
    rw [upd_ne _ _ (by omega), upd_ne _ _ (by omega)]; exact hX100 j hj
  have hXB : ∀ (x : Ins) (Y : List (Int × Int)), ∀ j, 100 ≤ j → (upd (upd (upd Xb 63 (some (.box 24 [.c (.str cls), .c (.str name), .c (.int .i64 params), .c (.int .i64 rg), .c (.sl (code.map cIns))]))) 70 (some (.mrow 37 2 ((Y).map cE)))) 68 (some (.box 41 [.c (.int .i64 x.kind), .c (.int .i64 x.dst), .c (.int .i64 x.a), .c (.int .i64 x.b), .c (.int .i64 x.c), .c (.int .i64 x.tt), .c (.int .i64 x.els), .c (.int .i64 x.num), .c (.str x.name), .c (.sl (x.args.map fun z => [C.int .i64 z]))]))) j = none := fun x Y j hj => by
    rw [upd_ne _ _ (by omega)]; exact hXA Y j hj
  have liveB : ∀ (x : Ins) (Y : List (Int × Int)), ∀ j, (Xb j).isSome = true → ((upd (upd (upd Xb 63 (some (.box 24 [.c (.str cls), .c (.str name), .c (.int .i64 params), .c (.int .i64 rg), .c (.sl (code.map cIns))]))) 70 (some (.mrow 37 2 ((Y).map cE)))) 68 (some (.box 41 [.c (.int .i64 x.kind), .c (.int .i64 x.dst), .c (.int .i64 x.a), .c (.int .i64 x.b), .c (.int .i64 x.c), .c (.int .i64 x.tt), .c (.int .i64 x.els), .c (.int .i64 x.num), .c (.str x.name), .c (.sl (x.args.map fun z => [C.int .i64 z]))]))) j).isSome = true := fun x Y j hj => live_upd j (liveA _ _ j hj)
  have keptB : ∀ K' F' (x : Ins) (Y : List (Int × Int)), K ≤ K' → ∀ j, Rr.keep j → (setsM K' N F' (upd (upd (upd Xb 63 (some (.box 24 [.c (.str cls), .c (.str name), .c (.int .i64 params), .c (.int .i64 rg), .c (.sl (code.map cIns))]))) 70 (some (.mrow 37 2 ((Y).map cE)))) 68 (some (.box 41 [.c (.int .i64 x.kind), .c (.int .i64 x.dst), .c (.int .i64 x.a), .c (.int .i64 x.b), .c (.int .i64 x.c), .c (.int .i64 x.tt), .c (.int .i64 x.els), .c (.int .i64 x.num), .c (.str x.name), .c (.sl (x.args.map fun z => [C.int .i64 z]))]))) j).isSome = true := fun K' F' x Y hKK j hj => by
    rw [hkeep] at hj
    exact setsM_live hKK (liveB x Y) j hj.1
  have wfB : ∀ (x : Ins) (y : O), y.ids = [] → ∀ id o, (upd (upd (upd Xb 63 (some (.box 24 [.c (.str cls), .c (.str name), .c (.int .i64 params), .c (.int .i64 rg), .c (.sl (code.map cIns))]))) 70 (some y)) 68 (some (.box 41 [.c (.int .i64 x.kind), .c (.int .i64 x.dst), .c (.int .i64 x.a), .c (.int .i64 x.b), .c (.int .i64 x.c), .c (.int .i64 x.tt), .c (.int .i64 x.els), .c (.int .i64 x.num), .c (.str x.name), .c (.sl (x.args.map fun z => [C.int .i64 z]))]))) id = some o → Xb id = some o ∨ o.ids = [] := fun x y hy id o ho => by
    unfold upd at ho
    split at ho
    · cases ho; exact .inr rfl
    · exact wfA _ _ rfl hy id o ho
  have killXb : killM 70 Xb = Xb := by
    funext j
    have h := congrFun (kill_free (id := 70) hWF (by rw [lo70]; exact x70)) j
    by_cases hj : j < 100
    · rw [killM_app, setsM_lo hj] at h; exact h
    · rw [killM_app, hX100 j (by omega)]; rfl
  have turn70 : ∀ (x : Ins) (Y : List (Int × Int)) (z : O), upd (killM 70 (upd (upd (upd Xb 63 (some (.box 24 [.c (.str cls), .c (.str name), .c (.int .i64 params), .c (.int .i64 rg), .c (.sl (code.map cIns))]))) 70 (some (.mrow 37 2 ((Y).map cE)))) 68 (some (.box 41 [.c (.int .i64 x.kind), .c (.int .i64 x.dst), .c (.int .i64 x.a), .c (.int .i64 x.b), .c (.int .i64 x.c), .c (.int .i64 x.tt), .c (.int .i64 x.els), .c (.int .i64 x.num), .c (.str x.name), .c (.sl (x.args.map fun z => [C.int .i64 z]))])))) 70 (some z) = upd (upd (upd Xb 63 (some (.box 24 [.c (.str cls), .c (.str name), .c (.int .i64 params), .c (.int .i64 rg), .c (.sl (code.map cIns))]))) 70 (some z)) 68 (some (.box 41 [.c (.int .i64 x.kind), .c (.int .i64 x.dst), .c (.int .i64 x.a), .c (.int .i64 x.b), .c (.int .i64 x.c), .c (.int .i64 x.tt), .c (.int .i64 x.els), .c (.int .i64 x.num), .c (.str x.name), .c (.sl (x.args.map fun z => [C.int .i64 z]))])) := fun x Y z => by
    funext j
    by_cases e : j = 70
    · subst e; rw [upd_same]; simp only [upd_app, Nat.reduceEqDiff, reduceIte]
    · rw [upd_ne _ _ e, killM_app]
      by_cases e2 : j = 68
      · subst e2; simp only [upd_app, Nat.reduceEqDiff, reduceIte]; rfl
      · rw [upd_ne _ _ e2, upd_ne _ _ e, upd_ne _ _ e2, upd_ne _ _ e]
        by_cases e3 : j = 63
        · subst e3; simp only [upd_app, Nat.reduceEqDiff, reduceIte]; rfl
        · rw [upd_ne _ _ e3]; exact congrFun killXb j
  refine W.loop (ι := Nat × List (Int × Int)) (fun y => ⟨upd (upd (upd (upd (upd (upd (upd (fun _ => .top) 1 (.own a)) 2 (.map c)) 3 (.ptr 63 0)) 6 (.own 70)) 15 (.c (.sl (code.map cIns)))) 16 (.c (.int .i64 code.length))) 17 (.c (.int .i64 y.1)), setsM K N F (upd (upd Xb 63 (some (.box 24 [.c (.str cls), .c (.str name), .c (.int .i64 params), .c (.int .i64 rg), .c (.sl (code.map cIns))]))) 70 (some (.mrow 37 2 ((y.2).map cE))))⟩) (fun y => y.1 ≤ code.length ∧ y.2.length ≤ usC code y.1 * N ∧ ∀ z, z ∈ y.2 ↔ FndP code rg F y.1 [] z) (fun y => code.length - y.1) (0, []) ?start ⟨Nat.zero_le _, by simp, fun z => ⟨fun h => (by cases h), fun h => (by rcases h with ⟨_, i, _, h, _⟩ | ⟨_, _, r, h, _⟩ <;> simp at h)⟩⟩ ?round
  case start =>
    refine le_mk ?sle ?mle ?swf ?mwf (keptA K F _ _ (Nat.le_refl _)) (by rfl)
    case swf => repeat (first | exact swf_top _ | refine swf_upd ?_ (by simp [A.ids, upd_app, lo63, lo70, loa, loc, a63, a70, c63, c70, hin, hown]))
    case mwf => exact setsM_wf2 hWF hX100 (Nat.le_refl _) (wfA _ _ rfl rfl) (liveA _ _)
    case mle => exact mle_refl' (by rw [setsM_upd (by decide), setsM_upd (by decide)]; rfl)
    case sle => repeat (first | exact sle_top _ | exact sle_refl _ | refine sle_upd ?_ (by first | rfl | (simp only [upd_app, killS_app, A.kill, entry_zero, entry_succ, Nat.reduceEqDiff, reduceIte]; done)))
  case round =>
    rintro ⟨j, Y⟩ ⟨hj, hYl, hY⟩
    simp only at hj hYl hY
    have hub := hus0 j
    repeat (first | refine W.seq ?_ | refine W.block ?_ | refine W.skip ?_ | refine W.exit ?_ | refine W.region tab_ok 60 (by decide) (exec_run (by simp only [exa, beq_self_eq_true, ByteArray.size, Nat.reduceAdd, Nat.reduceLeDiff, Nat.reduceEqDiff, Nat.reduceMul, Int.reduceToNat, reduceIte, Int.reduceLE, Int.reduceNeg]; rfl)) ?_)
    refine W.cond rfl ?_ ?_
    · intro hlt
      simp only [decide_eq_true_eq, Int.ofNat_lt] at hlt
      obtain ⟨x, hx⟩ : ∃ x, code[j]? = some x := ⟨_, List.getElem?_eq_getElem hlt⟩
      have hax := hargs x (List.mem_of_getElem? hx)
      have hxc : cIns x = [.int .i64 x.kind, .int .i64 x.dst, .int .i64 x.a, .int .i64 x.b, .int .i64 x.c, .int .i64 x.tt, .int .i64 x.els, .int .i64 x.num, .str x.name, .sl (x.args.map fun z => [C.int .i64 z])] := rfl
      have hus := fun m => uses_ok x (by omega) m
      have hul := usI_len x
      rw [hxc] at hus
      repeat (first | refine W.seq ?_ | refine W.block ?_ | refine W.skip ?_ | refine W.exit ?_ | refine W.region tab_ok 60 (by decide) (exec_run (by simp only [exa, beq_self_eq_true, ByteArray.size, Nat.reduceAdd, Nat.reduceLeDiff, Nat.reduceEqDiff, Nat.reduceMul, Int.reduceToNat, reduceIte, Int.reduceLE, Int.reduceNeg, at_map hx, hxc, lo68, x68]; rfl)) ?_)
      (repeat (first | refine W.seq ?_ | refine W.block ?_ | refine W.skip ?_ | refine W.exit ?_))
      refine W.regionK tab_ok 60 (by decide) ?_
      refine runk_split 1 (by simp only [exa, beq_self_eq_true, ByteArray.size, Nat.reduceAdd, Nat.reduceLeDiff, Nat.reduceEqDiff, Nat.reduceMul, Int.reduceToNat, reduceIte, Int.reduceLE, Int.reduceNeg, hxc, lo68, lo63, lo70]; rfl) ?_
      refine runk_call rfl rfl rfl rfl rfl (by simp) (cvs_cons cv_refl cvs_nil) (hus _) ?_
      refine runk_exec (by simp only [exa, beq_self_eq_true, ByteArray.size, Nat.reduceAdd, Nat.reduceLeDiff, Nat.reduceEqDiff, Nat.reduceMul, Int.reduceToNat, reduceIte, Int.reduceLE, Int.reduceNeg, List.length_map]; rfl) ?_
      (repeat (first | refine W.seq ?_ | refine W.block ?_ | refine W.skip ?_ | refine W.exit ?_))
      refine W.loop (ι := Nat × List (Int × Int)) (fun y => ⟨upd (upd (upd (upd (upd (upd (upd (upd (upd (upd (upd (upd (fun _ => .top) 1 (.own a)) 2 (.map c)) 3 (.ptr 63 0)) 6 (.own 70)) 15 (.c (.sl (code.map cIns)))) 16 (.c (.int .i64 code.length))) 17 (.c (.int .i64 j))) 7 (.c (.int .i64 j))) 8 (.ptr 68 0)) 23 (.c (.sl ((usI x).map cZ)))) 24 (.c (.int .i64 (usI x).length))) 25 (.c (.int .i64 y.1)), setsM K N F (upd (upd (upd Xb 63 (some (.box 24 [.c (.str cls), .c (.str name), .c (.int .i64 params), .c (.int .i64 rg), .c (.sl (code.map cIns))]))) 70 (some (.mrow 37 2 ((y.2).map cE)))) 68 (some (.box 41 [.c (.int .i64 x.kind), .c (.int .i64 x.dst), .c (.int .i64 x.a), .c (.int .i64 x.b), .c (.int .i64 x.c), .c (.int .i64 x.tt), .c (.int .i64 x.els), .c (.int .i64 x.num), .c (.str x.name), .c (.sl (x.args.map fun z => [C.int .i64 z]))])))⟩) (fun y => y.1 ≤ (usI x).length ∧ y.2.length ≤ (usC code j + y.1) * N ∧ ∀ z, z ∈ y.2 ↔ FndP code rg F j ((usI x).take y.1) z) (fun y => (usI x).length - y.1) (0, Y) ?start2 ⟨Nat.zero_le _, hYl, hY⟩ ?round2
      case start2 =>
        refine le_mk ?sle ?mle ?swf ?mwf (keptB K F x _ (Nat.le_refl _)) (by rfl)
        case swf =>
          repeat (first | exact swf_top _ | refine swf_upd ?_ (by simp [A.ids, upd_app, lo63, lo68, lo70, loa, loc, a63, a68, a70, c63, c68, c70, hin, hown]))
        case mwf => exact setsM_wf2 hWF hX100 (Nat.le_refl _) (wfB x _ rfl) (liveB x _)
        case mle => exact mle_refl' (by rw [upd_upd, setsM_upd (by decide)])
        case sle => repeat (first | exact sle_top _ | exact sle_refl _ | refine sle_upd ?_ (by first | rfl | (simp only [upd_app, killS_app, A.kill, entry_zero, entry_succ, Nat.reduceEqDiff, reduceIte]; done)))
      case round2 =>
        rintro ⟨q, O1⟩ ⟨hq, hOl, hO⟩
        simp only at hq hOl hO
        repeat (first | refine W.seq ?_ | refine W.block ?_ | refine W.skip ?_ | refine W.exit ?_ | refine W.region tab_ok 60 (by decide) (exec_run (by simp only [exa, beq_self_eq_true, ByteArray.size, Nat.reduceAdd, Nat.reduceLeDiff, Nat.reduceEqDiff, Nat.reduceMul, Int.reduceToNat, reduceIte, Int.reduceLE, Int.reduceNeg]; rfl)) ?_)
        refine W.cond rfl ?_ ?_
        · intro hql
          simp only [decide_eq_true_eq, Int.ofNat_lt] at hql
          obtain ⟨u, hu⟩ : ∃ u, (usI x)[q]? = some u := ⟨_, List.getElem?_eq_getElem hql⟩
          have hub2 := okD_us hok hx (List.mem_of_getElem? hu)
          obtain ⟨r, rfl⟩ := Int.eq_ofNat_of_zero_le hub2.1
          have hrr : r < rg := by omega
          obtain ⟨qq, hfind⟩ := own_there (rg := rg) (n := code.length) (m := rg) (r := r) (Nat.le_refl _) hrr (by omega)
          obtain ⟨k0, hk0⟩ : ∃ k0, k0 = code.length + (rg - 1 - r) := ⟨_, rfl⟩
          rw [← hk0] at hfind
          have hk0K : k0 < K := by omega
          have hF0 : ∀ d, F k0 d = true ↔ rgD code rg d = some r := fun d => by
            rw [hk0, hFo (rg - 1 - r) (by omega) d, show rg - 1 - (rg - 1 - r) = r by omega]
          have hj0 : (0 : Int) ≤ (j : Int) := by omega
          have hcl := cloneM_ok (K := K) (F := F) (X := upd (upd (upd Xb 63 (some (.box 24 [.c (.str cls), .c (.str name), .c (.int .i64 params), .c (.int .i64 rg), .c (.sl (code.map cIns))]))) 70 (some (.mrow 37 2 ((O1).map cE)))) 68 (some (.box 41 [.c (.int .i64 x.kind), .c (.int .i64 x.dst), .c (.int .i64 x.a), .c (.int .i64 x.b), .c (.int .i64 x.c), .c (.int .i64 x.tt), .c (.int .i64 x.els), .c (.int .i64 x.num), .c (.str x.name), .c (.sl (x.args.map fun z => [C.int .i64 z]))]))) hN1 (hXB x _) hk0K
          obtain ⟨F1, hF1⟩ : ∃ F1, F1 = setF F K (F k0) := ⟨_, rfl⟩
          rw [← hF1] at hcl
          have hF1j : F1 j = F j := by rw [hF1]; exact setF_other (by omega)
          have hF1K : F1 K = F k0 := by rw [hF1]; exact setF_self
          have hmt := meetM_ok (K := K + 1) (F := F1) (X := upd (upd (upd Xb 63 (some (.box 24 [.c (.str cls), .c (.str name), .c (.int .i64 params), .c (.int .i64 rg), .c (.sl (code.map cIns))]))) 70 (some (.mrow 37 2 ((O1).map cE)))) 68 (some (.box 41 [.c (.int .i64 x.kind), .c (.int .i64 x.dst), .c (.int .i64 x.a), .c (.int .i64 x.b), .c (.int .i64 x.c), .c (.int .i64 x.tt), .c (.int .i64 x.els), .c (.int .i64 x.num), .c (.str x.name), .c (.sl (x.args.map fun z => [C.int .i64 z]))]))) hN1 (hXB x _) (k := K) (i := j) (by omega) (by omega) (by omega) (fun d hd => hFb j (by omega) d (by rw [hF1j] at hd; exact hd))
          rw [hF1j, hF1K] at hmt
          obtain ⟨F2, hF2⟩ : ∃ F2, F2 = setF F1 K (andF (F k0) (F j)) := ⟨_, rfl⟩
          rw [← hF2] at hmt
          have hF2K : F2 K = andF (F k0) (F j) := by rw [hF2]; exact setF_self
          have hF2k : ∀ k, k < K → F2 k = F k := fun k hk => by rw [hF2, setF_other (by omega), hF1, setF_other (by omega)]
          have hls := listM_ok (K := K + 1) (F := F2) (X := upd (upd (upd Xb 63 (some (.box 24 [.c (.str cls), .c (.str name), .c (.int .i64 params), .c (.int .i64 rg), .c (.sl (code.map cIns))]))) 70 (some (.mrow 37 2 ((O1).map cE)))) 68 (some (.box 41 [.c (.int .i64 x.kind), .c (.int .i64 x.dst), .c (.int .i64 x.a), .c (.int .i64 x.b), .c (.int .i64 x.c), .c (.int .i64 x.tt), .c (.int .i64 x.els), .c (.int .i64 x.num), .c (.str x.name), .c (.sl (x.args.map fun z => [C.int .i64 z]))]))) hN1 (hXB x _) (k := K) (by omega) (fun d hd => by rw [hF2K] at hd; unfold andF at hd; simp only [Bool.and_eq_true] at hd; exact hFb k0 hk0K d hd.1)
          rw [hF2K] at hls
          obtain ⟨L, hL⟩ : ∃ L, L = elems (andF (F k0) (F j)) N := ⟨_, rfl⟩
          rw [← hL] at hls
          have hLl : L.length ≤ N := by rw [hL]; exact elems_len _ _
          have hLm : ∀ d, d ∈ L ↔ rgD code rg d = some r ∧ F j d = true := fun d => by
            rw [hL, mem_elems]
            unfold andF
            rw [Bool.and_eq_true, hF0]
            exact ⟨fun h => h.2, fun h => ⟨hFb j (by omega) d h.2, h⟩⟩
          (repeat (first | refine W.seq ?_ | refine W.block ?_ | refine W.skip ?_ | refine W.exit ?_))
          refine W.region tab_ok 60 (by decide) (exec_run (by simp only [exa, beq_self_eq_true, ByteArray.size, Nat.reduceAdd, Nat.reduceLeDiff, Nat.reduceEqDiff, Nat.reduceMul, Int.reduceToNat, reduceIte, Int.reduceLE, Int.reduceNeg, at_map hu, cZ]; rfl)) ?_
          (repeat (first | refine W.seq ?_ | refine W.block ?_ | refine W.skip ?_ | refine W.exit ?_))
          refine W.regionK tab_ok 60 (by decide) ?_
          refine runk_split 3 (by simp only [exa, beq_self_eq_true, ByteArray.size, Nat.reduceAdd, Nat.reduceLeDiff, Nat.reduceEqDiff, Nat.reduceMul, Int.reduceToNat, reduceIte, Int.reduceLE, Int.reduceNeg, loc, c63, c68, c70, hown, hfind, Bool.false_eq_true]; rfl) ?_
          refine runk_callE (D := []) rfl rfl rfl rfl rfl (fun j hj => by simp at hj) (by simp) (cvs_cons cv_refl cvs_nil) hcl ?_
          simp only [killL, putS, upd_upd]
          refine runk_exec (by simp only [exa, beq_self_eq_true, ByteArray.size, Nat.reduceAdd, Nat.reduceLeDiff, Nat.reduceEqDiff, Nat.reduceMul, Int.reduceToNat, reduceIte, Int.reduceLE, Int.reduceNeg]; rfl) ?_
          (repeat (first | refine W.seq ?_ | refine W.block ?_ | refine W.skip ?_ | refine W.exit ?_))
          refine W.regionK tab_ok 60 (by decide) ?_
          refine runk_split 5 (by simp only [exa, beq_self_eq_true, ByteArray.size, Nat.reduceAdd, Nat.reduceLeDiff, Nat.reduceEqDiff, Nat.reduceMul, Int.reduceToNat, reduceIte, Int.reduceLE, Int.reduceNeg, loa, a63, a68, a70, hin, inL_len, inL_at hlt, hlt, hj0, Int.toNat_natCast, and_self]; rfl) ?_
          refine runk_callE (D := []) rfl rfl rfl rfl rfl (fun j hj => by simp at hj) (by simp) (cvs_cons cv_refl (cvs_cons cv_refl cvs_nil)) hmt ?_
          simp only [killL, putS, upd_upd]
          refine runk_exec (by simp only [exa, beq_self_eq_true, ByteArray.size, Nat.reduceAdd, Nat.reduceLeDiff, Nat.reduceEqDiff, Nat.reduceMul, Int.reduceToNat, reduceIte, Int.reduceLE, Int.reduceNeg]; rfl) ?_
          (repeat (first | refine W.seq ?_ | refine W.block ?_ | refine W.skip ?_ | refine W.exit ?_))
          refine W.regionK tab_ok 60 (by decide) ?_
          refine runk_split 1 (by simp only [exa, beq_self_eq_true, ByteArray.size, Nat.reduceAdd, Nat.reduceLeDiff, Nat.reduceEqDiff, Nat.reduceMul, Int.reduceToNat, reduceIte, Int.reduceLE, Int.reduceNeg]; rfl) ?_
          refine runk_callE (D := []) rfl rfl rfl rfl rfl (fun j hj => by simp at hj) (by simp) (cvs_cons cv_refl cvs_nil) hls ?_
          simp only [killL, putS, upd_upd]
          refine runk_exec (by simp only [exa, beq_self_eq_true, ByteArray.size, Nat.reduceAdd, Nat.reduceLeDiff, Nat.reduceEqDiff, Nat.reduceMul, Int.reduceToNat, reduceIte, Int.reduceLE, Int.reduceNeg, List.length_map]; rfl) ?_
          (repeat (first | refine W.seq ?_ | refine W.block ?_ | refine W.skip ?_ | refine W.exit ?_))
          have hbig : (usC code j + q + 1) * N ≤ 1060000 * 12000 := Nat.mul_le_mul (by have := usC_succ hx; have := hus0 (j + 1); omega) (by omega)
          have hO1b : O1.length + N ≤ (usC code j + q + 1) * N := by rw [Nat.add_mul _ 1]; omega
          refine W.loop (ι := Nat) (fun t => ⟨upd (upd (upd (upd (upd (upd (upd (upd (upd (upd (upd (upd (upd (upd (upd (fun _ => .top) 1 (.own a)) 2 (.map c)) 3 (.ptr 63 0)) 6 (.own 70)) 15 (.c (.sl (code.map cIns)))) 16 (.c (.int .i64 code.length))) 17 (.c (.int .i64 j))) 7 (.c (.int .i64 j))) 8 (.ptr 68 0)) 23 (.c (.sl ((usI x).map cZ)))) 24 (.c (.int .i64 (usI x).length))) 25 (.c (.int .i64 q))) 40 (.c (.sl (L.map cN)))) 41 (.c (.int .i64 L.length))) 42 (.c (.int .i64 t)), setsM (K + 1) N F2 (upd (upd (upd Xb 63 (some (.box 24 [.c (.str cls), .c (.str name), .c (.int .i64 params), .c (.int .i64 rg), .c (.sl (code.map cIns))]))) 70 (some (.mrow 37 2 ((O1 ++ (L.take t).map fun d : Nat => ((d : Int) - (rg : Int), (j : Int))).map cE)))) 68 (some (.box 41 [.c (.int .i64 x.kind), .c (.int .i64 x.dst), .c (.int .i64 x.a), .c (.int .i64 x.b), .c (.int .i64 x.c), .c (.int .i64 x.tt), .c (.int .i64 x.els), .c (.int .i64 x.num), .c (.str x.name), .c (.sl (x.args.map fun z => [C.int .i64 z]))])))⟩) (fun t => t ≤ L.length) (fun t => L.length - t) 0 ?start3 (Nat.zero_le _) ?round3
          case start3 =>
            refine le_mk ?sle ?mle ?swf ?mwf (keptB (K + 1) F2 x _ (by omega)) (by rfl)
            case swf =>
              repeat (first | exact swf_top _ | refine swf_upd ?_ (by simp [A.ids, upd_app, lo63, lo68, lo70, loa, loc, a63, a68, a70, c63, c68, c70, hin, hown]))
            case mwf => exact setsM_wf2 hWF hX100 (by omega) (wfB x _ rfl) (liveB x _)
            case mle => exact mle_refl' (by rw [List.take_zero, List.map_nil, List.append_nil])
            case sle => repeat (first | exact sle_top _ | exact sle_refl _ | refine sle_upd ?_ (by first | rfl | (simp only [upd_app, killS_app, A.kill, entry_zero, entry_succ, Nat.reduceEqDiff, reduceIte]; done)))
          case round3 =>
            intro t ht
            repeat (first | refine W.seq ?_ | refine W.block ?_ | refine W.skip ?_ | refine W.exit ?_ | refine W.region tab_ok 60 (by decide) (exec_run (by simp only [exa, beq_self_eq_true, ByteArray.size, Nat.reduceAdd, Nat.reduceLeDiff, Nat.reduceEqDiff, Nat.reduceMul, Int.reduceToNat, reduceIte, Int.reduceLE, Int.reduceNeg]; rfl)) ?_)
            refine W.cond rfl ?_ ?_
            · intro htl
              simp only [decide_eq_true_eq, Int.ofNat_lt] at htl
              obtain ⟨d, hd⟩ : ∃ d, L[t]? = some d := ⟨_, List.getElem?_eq_getElem htl⟩
              have hdN : d < N := by
                have := (hLm d).1 (List.mem_of_getElem? hd)
                exact hFb j (by omega) d this.2
              have hwd : IntKind.i64.wrap ((d : Int) - (rg : Int)) = (d : Int) - rg := by rw [IntKind.wrap_i64]; omega
              (repeat (first | refine W.seq ?_ | refine W.block ?_ | refine W.skip ?_ | refine W.exit ?_))
              refine W.region tab_ok 60 (by decide) (exec_run (by simp only [exa, beq_self_eq_true, ByteArray.size, Nat.reduceAdd, Nat.reduceLeDiff, Nat.reduceEqDiff, Nat.reduceMul, Int.reduceToNat, reduceIte, Int.reduceLE, Int.reduceNeg, at_map hd, cN]; rfl)) ?_
              (repeat (first | refine W.seq ?_ | refine W.block ?_ | refine W.skip ?_ | refine W.exit ?_))
              refine W.regionK tab_ok 60 (by decide) ?_
              refine runk_split 8 (by simp only [exa, beq_self_eq_true, ByteArray.size, Nat.reduceAdd, Nat.reduceLeDiff, Nat.reduceEqDiff, Nat.reduceMul, Int.reduceToNat, reduceIte, Int.reduceLE, Int.reduceNeg, lo63, lo70, lo68, hwd]; rfl) ?_
              refine runk_appendM tab_ok 70 rfl rfl rfl rfl rfl rfl (by simp only [exa, beq_self_eq_true, ByteArray.size, Nat.reduceAdd, Nat.reduceLeDiff, Nat.reduceEqDiff, Nat.reduceMul, Int.reduceToNat, reduceIte, Int.reduceLE, Int.reduceNeg, lo63, lo70, lo68, hwd]) (by simp only [exa, beq_self_eq_true, ByteArray.size, Nat.reduceAdd, Nat.reduceLeDiff, Nat.reduceEqDiff, Nat.reduceMul, Int.reduceToNat, reduceIte, Int.reduceLE, Int.reduceNeg, lo63, lo70, lo68, hwd]; rfl) (by first | rfl | (simp only [exa, beq_self_eq_true, ByteArray.size, Nat.reduceAdd, Nat.reduceLeDiff, Nat.reduceEqDiff, Nat.reduceMul, Int.reduceToNat, reduceIte, Int.reduceLE, Int.reduceNeg, lo63, lo70, lo68, hwd]; rfl)) rfl rfl rfl rfl nk70 (by intro z hz; simp at hz; subst hz; rfl) (by simp only [List.length_map, List.length_append, List.length_cons, List.length_nil, List.length_take]; omega) (by decide) ?_
              refine runk_exec (by simp only [exa, beq_self_eq_true, ByteArray.size, Nat.reduceAdd, Nat.reduceLeDiff, Nat.reduceEqDiff, Nat.reduceMul, Int.reduceToNat, reduceIte, Int.reduceLE, Int.reduceNeg]; rfl) ?_
              repeat (first | refine W.seq ?_ | refine W.block ?_ | refine W.skip ?_ | refine W.exit ?_ | refine W.region tab_ok 60 (by decide) (exec_run (by simp only [exa, beq_self_eq_true, ByteArray.size, Nat.reduceAdd, Nat.reduceLeDiff, Nat.reduceEqDiff, Nat.reduceMul, Int.reduceToNat, reduceIte, Int.reduceLE, Int.reduceNeg]; rfl)) ?_)
              refine ⟨t + 1, htl, by omega, ?_⟩
              refine le_mk ?sle ?mle ?swf ?mwf (keptB (K + 1) F2 x _ (by omega)) (by rfl)
              case swf =>
                repeat (first | exact swf_top _ | refine swf_upd ?_ (by simp [A.ids, upd_app, lo63, lo68, lo70, loa, loc, a63, a68, a70, c63, c68, c70, hin, hown]))
              case mwf => exact setsM_wf2 hWF hX100 (by omega) (wfB x _ rfl) (liveB x _)
              case mle =>
                refine mle_refl' ?_
                dsimp only
                rw [setsM_kill (by decide), setsM_upd (by decide)]
                congr 1
                rw [turn70, List.take_add_one, hd]
                simp [cE]
              case sle => repeat (first | exact sle_top _ | exact sle_refl _ | refine sle_upd ?_ (by first | rfl | (simp only [upd_app, killS_app, A.kill, entry_zero, entry_succ, Nat.reduceEqDiff, reduceIte, a70, c70, wrap_succ (show t + 1 < 9223372036854775808 by omega)]; done)))
            · intro htl
              simp only [decide_eq_false_iff_not, Int.ofNat_lt] at htl
              obtain rfl : t = L.length := by omega
              repeat (first | refine W.seq ?_ | refine W.block ?_ | refine W.skip ?_ | refine W.exit ?_ | refine W.region tab_ok 60 (by decide) (exec_run (by simp only [exa, beq_self_eq_true, ByteArray.size, Nat.reduceAdd, Nat.reduceLeDiff, Nat.reduceEqDiff, Nat.reduceMul, Int.reduceToNat, reduceIte, Int.reduceLE, Int.reduceNeg]; rfl)) ?_)
              refine ⟨(q + 1, O1 ++ L.map fun d : Nat => ((d : Int) - (rg : Int), (j : Int))), ⟨hql, ?_, fun z => ?_⟩, by simp only; omega, ?_⟩
              · simp only [List.length_append, List.length_map]
                rw [← Nat.add_assoc]
                omega
              · simp only
                rw [List.mem_append, hO, List.mem_map, List.take_add_one, hu]
                unfold FndP
                constructor
                · rintro ((h | ⟨d, e, r', h1, h2⟩) | ⟨d, h1, rfl⟩)
                  · exact .inl h
                  · exact .inr ⟨d, e, r', List.mem_append_left _ h1, h2⟩
                  · exact .inr ⟨d, rfl, r, List.mem_append_right _ (by simp), (hLm d).1 h1⟩
                · rintro (h | ⟨d, e, r', h1, h2⟩)
                  · exact .inl (.inl h)
                  · rcases List.mem_append.1 h1 with h1 | h1
                    · exact .inl (.inr ⟨d, e, r', h1, h2⟩)
                    · have h1 : (r' : Int) = (r : Int) := by simpa using h1
                      have h1 : r' = r := by omega
                      subst h1
                      exact .inr ⟨d, (hLm d).2 h2, e.symm⟩
              refine le_mk ?sle ?mle ?swf ?mwf (keptB K F x _ (Nat.le_refl _)) (by rfl)
              case swf =>
                repeat (first | exact swf_top _ | refine swf_upd ?_ (by simp [A.ids, upd_app, lo63, lo68, lo70, loa, loc, a63, a68, a70, c63, c68, c70, hin, hown]))
              case mwf => exact setsM_wf2 hWF hX100 (Nat.le_refl _) (wfB x _ rfl) (liveB x _)
              case mle =>
                rw [List.take_length, ← setsM_congr (K := K) (F := F2) (F' := F) hF2k]
                exact setsM_drop (hXB x _)
              case sle => repeat (first | exact sle_top _ | exact sle_refl _ | refine sle_upd ?_ (by first | rfl | (simp only [upd_app, killS_app, A.kill, entry_zero, entry_succ, Nat.reduceEqDiff, reduceIte, wrap_succ (show q + 1 < 9223372036854775808 by omega)]; done)))
        · intro hql
          simp only [decide_eq_false_iff_not, Int.ofNat_lt] at hql
          obtain rfl : q = (usI x).length := by omega
          repeat (first | refine W.seq ?_ | refine W.block ?_ | refine W.skip ?_ | refine W.exit ?_ | refine W.region tab_ok 60 (by decide) (exec_run (by simp only [exa, beq_self_eq_true, ByteArray.size, Nat.reduceAdd, Nat.reduceLeDiff, Nat.reduceEqDiff, Nat.reduceMul, Int.reduceToNat, reduceIte, Int.reduceLE, Int.reduceNeg]; rfl)) ?_)
          refine ⟨(j + 1, O1), ⟨hlt, ?_, fun z => ?_⟩, by simp only; omega, ?_⟩
          · simp only
            rw [usC_succ hx]; exact hOl
          · simp only
            rw [hO, List.take_length]
            unfold FndP
            constructor
            · rintro (⟨d, i, e, h1, h2⟩ | ⟨d, e, r, h1, h2⟩)
              · exact .inl ⟨d, i, e, by omega, h2⟩
              · refine .inl ⟨d, j, e, by omega, r, ?_, h2⟩
                unfold usN
                rw [hx]
                exact List.mem_map.2 ⟨r, h1, by simp⟩
            · rintro (⟨d, i, e, h1, r, h2, h3⟩ | ⟨d, e, r, h1, h2⟩)
              · by_cases hij : i = j
                · subst hij
                  refine .inr ⟨d, e, r, ?_, h3⟩
                  unfold usN at h2
                  rw [hx] at h2
                  obtain ⟨w, hw, e2⟩ := List.mem_map.1 h2
                  have := okD_us hok hx hw
                  rw [← e2, Int.toNat_of_nonneg this.1]; exact hw
                · exact .inl ⟨d, i, e, by omega, r, h2, h3⟩
              · cases h1
          refine le_mk ?sle ?mle ?swf ?mwf (keptA K F _ _ (Nat.le_refl _)) (by rfl)
          case swf =>
            repeat (first | exact swf_top _ | refine swf_upd ?_ (by simp [A.ids, upd_app, lo63, lo68, lo70, loa, loc, a63, a68, a70, c63, c68, c70, hin, hown]))
          case mwf => exact setsM_wf2 hWF hX100 (Nat.le_refl _) (wfA _ _ rfl rfl) (liveA _ _)
          case mle =>
            refine setsM_le (fun i => ?_) (hXA _)
            by_cases e : i = 68
            · subst e; exact .inl (by simp only [upd_app, Nat.reduceEqDiff, reduceIte, x68])
            · exact .inr (by rw [upd_ne _ _ e])
          case sle => repeat (first | exact sle_top _ | exact sle_refl _ | refine sle_upd ?_ (by first | rfl | (simp only [upd_app, killS_app, A.kill, entry_zero, entry_succ, Nat.reduceEqDiff, reduceIte, wrap_succ (show j + 1 < 9223372036854775808 by omega)]; done)))
    · intro hge
      simp only [decide_eq_false_iff_not, Int.ofNat_lt] at hge
      obtain rfl : j = code.length := by omega
      have hYb : usC code code.length * N ≤ 1060000 * 12000 := Nat.mul_le_mul (by omega) (by omega)
      have hrow : Lib.compact (sortE Y) = edD code rg := cut_edD fun z => by
        rw [hY]
        obtain ⟨z1, z2⟩ := z
        rw [mem_edD]
        unfold FndP EdP
        constructor
        · rintro (⟨d, i, e, h1, r, h2, h3, h4⟩ | ⟨d, e, r, h1, h2⟩)
          · simp only [Prod.mk.injEq] at e
            have hd := hFb i (by omega) d h4
            exact ⟨d, i, e.1, e.2, by omega, h1, r, h3, h2, (hFi i d h1 (by rw [h3]; rfl)).1 h4⟩
          · cases h1
        · rintro ⟨d, i, e1, e2, h1, h2, r, h3, h4, h5⟩
          exact .inl ⟨d, i, by rw [e1, e2], h2, r, h4, h3, (hFi i d h2 (by rw [h3]; rfl)).2 h5⟩
      repeat (first | refine W.seq ?_ | refine W.block ?_ | refine W.skip ?_ | refine W.exit ?_ | refine W.region tab_ok 60 (by decide) (exec_run (by simp only [exa, beq_self_eq_true, ByteArray.size, Nat.reduceAdd, Nat.reduceLeDiff, Nat.reduceEqDiff, Nat.reduceMul, Int.reduceToNat, reduceIte, Int.reduceLE, Int.reduceNeg]; rfl)) ?_)
      refine W.regionK tab_ok 60 (by decide) ?_
      refine runk_split 1 (by simp only [exa, beq_self_eq_true, ByteArray.size, Nat.reduceAdd, Nat.reduceLeDiff, Nat.reduceEqDiff, Nat.reduceMul, Int.reduceToNat, reduceIte, Int.reduceLE, Int.reduceNeg]; rfl) ?_
      refine runk_callE (D := []) rfl rfl rfl rfl rfl (fun j hj => by simp at hj) (by simp) (cvs_cons cv_refl (cvs_cons cv_refl cvs_nil)) (sortE_ok (ty := 37) Y (by omega) _ 70 (by simp only [exa, beq_self_eq_true, ByteArray.size, Nat.reduceAdd, Nat.reduceLeDiff, Nat.reduceEqDiff, Nat.reduceMul, Int.reduceToNat, reduceIte, Int.reduceLE, Int.reduceNeg, lo70])) ?_
      simp only [killL, putS, upd_upd]
      refine runk_exec (by simp only [exa, beq_self_eq_true, ByteArray.size, Nat.reduceAdd, Nat.reduceLeDiff, Nat.reduceEqDiff, Nat.reduceMul, Int.reduceToNat, reduceIte, Int.reduceLE, Int.reduceNeg]; rfl) ?_
      (repeat (first | refine W.seq ?_ | refine W.block ?_ | refine W.skip ?_ | refine W.exit ?_))
      refine W.regionK tab_ok 60 (by decide) ?_
      refine runk_split 1 (by simp only [exa, beq_self_eq_true, ByteArray.size, Nat.reduceAdd, Nat.reduceLeDiff, Nat.reduceEqDiff, Nat.reduceMul, Int.reduceToNat, reduceIte, Int.reduceLE, Int.reduceNeg]; rfl) ?_
      refine runk_callE (D := [70]) rfl rfl rfl rfl rfl (fun j hj => by simp at hj; subst hj; exact nk70) (by simp) (cvs_cons cv_refl cvs_nil) (compactE_ok (ty := 37) (sortE Y) (by rw [sortE_len]; omega) _ 70 (by simp only [exa, beq_self_eq_true, ByteArray.size, Nat.reduceAdd, Nat.reduceLeDiff, Nat.reduceEqDiff, Nat.reduceMul, Int.reduceToNat, reduceIte, Int.reduceLE, Int.reduceNeg])) ?_
      simp only [killL, putS, upd_upd]
      rw [hrow]
      refine runk_exec (by simp only [exa, beq_self_eq_true, ByteArray.size, Nat.reduceAdd, Nat.reduceLeDiff, Nat.reduceEqDiff, Nat.reduceMul, Int.reduceToNat, reduceIte, Int.reduceLE, Int.reduceNeg]; rfl) ?_
      refine W.freeze 6 70 rfl (by simp only [exa, beq_self_eq_true, ByteArray.size, Nat.reduceAdd, Nat.reduceLeDiff, Nat.reduceEqDiff, Nat.reduceMul, Int.reduceToNat, reduceIte, Int.reduceLE, Int.reduceNeg]; rfl) nk70 ?_
      refine W.ret ⟨.inr rfl, by rfl, ?_, ?mle⟩
      simp only [Tryd.f27, resE, resOne, fin, toT, exa, beq_self_eq_true, ByteArray.size, Nat.reduceAdd, Nat.reduceLeDiff, Nat.reduceEqDiff, Nat.reduceMul, Int.reduceToNat, reduceIte, Int.reduceLE, Int.reduceNeg]
      case mle =>
        intro i
        by_cases e70 : i = 70
        · subst e70; exact .inl (by rw [lo70, x70])
        by_cases e63 : i = 63
        · subst e63; exact .inl (by rw [lo63, x63])
        refine .inr ?_
        have hk := congrFun (kill_free (id := 70) hWF (by rw [lo70]; exact x70)) i
        rw [killM_app] at hk
        have hM1 : ∀ (x y : O), setsM K N F (upd (upd Xb 63 (some x)) 70 (some y)) i = setsM K N F Xb i := fun x y => by
          rw [← setsM_upd (by decide), upd_ne _ _ e70, ← setsM_upd (by decide), upd_ne _ _ e63]
        simp only [upd_ne _ _ e70, killM_app, hM1, hk]
end V
end Go.Proofs.YtcldeoolglhdoaaDoor
end
section
set_option linter.unusedVariables false
set_option linter.unusedSimpArgs false
namespace Go.Proofs.YtcldeoolglhdoaaDoor
namespace V
open Go.RowKit G C17 D18
theorem kill_ownL {rg n m id : Nat} (h : id < 100) : O.kill id (.map (ownL rg n m)) = .map (ownL rg n m) := by
  simp only [O.kill, ownL, List.map_map, O.map.injEq]
  refine List.map_congr_left fun e _ => ?_
  have : sN (n + e) ≠ id := by unfold sN; omega
  simp [A1.kill, A1.ids, this, Ne.symm this]
theorem kill_inL {ty n id : Nat} (h : id < 100) : O.kill id (.rows ty (inL n)) = .rows ty (inL n) := by
  simp only [O.kill, inL, List.map_map, O.rows.injEq, true_and]
  refine List.map_congr_left fun e _ => ?_
  have : sN e ≠ id := by unfold sN; omega
  simp [A1.kill, A1.ids, this, Ne.symm this]
def XU (b1 : O) (rg n : Nat) (ws : List Nat) : Mem := upd (upd (upd (upd (upd (upd Mem.nil 1 (some b1)) 5 (some (.box 46 [.own 29]))) 29 (some (.rows 47 (inL n)))) 44 (some (.map (ownL rg n rg)))) 10 (some (.box 38 [.own 50]))) 50 (some (.mrow 3 1 (ws.map cN)))
section
variable {b1 : O} {rg n : Nat} {ws : List Nat}
theorem XU_1 : XU b1 rg n ws 1 = some b1 := rfl
theorem XU_5 : XU b1 rg n ws 5 = some (.box 46 [.own 29]) := rfl
theorem XU_29 : XU b1 rg n ws 29 = some (.rows 47 (inL n)) := rfl
theorem XU_44 : XU b1 rg n ws 44 = some (.map (ownL rg n rg)) := rfl
theorem XU_10 : XU b1 rg n ws 10 = some (.box 38 [.own 50]) := rfl
theorem XU_50 : XU b1 rg n ws 50 = some (.mrow 3 1 (ws.map cN)) := rfl
theorem XU_far {j : Nat} (h : 51 ≤ j) : XU b1 rg n ws j = none := by
  unfold XU
  rw [upd_ne _ _ (by omega), upd_ne _ _ (by omega), upd_ne _ _ (by omega), upd_ne _ _ (by omega), upd_ne _ _ (by omega), upd_ne _ _ (by omega)]; rfl
theorem XU_other {j : Nat} (h1 : j ≠ 1) (h2 : j ≠ 5) (h3 : j ≠ 29) (h4 : j ≠ 44) (h5 : j ≠ 10) (h6 : j ≠ 50) : XU b1 rg n ws j = none := by
  unfold XU
  rw [upd_ne _ _ h6, upd_ne _ _ h5, upd_ne _ _ h4, upd_ne _ _ h3, upd_ne _ _ h2, upd_ne _ _ h1]; rfl
theorem XU_turn (hb : b1.ids = []) {ws' : List Nat} : upd (upd (killM 50 (XU b1 rg n ws)) 50 (some (.mrow 3 1 (ws'.map cN)))) 10 (some (.box 38 [.own 50])) = XU b1 rg n ws' := by
  have kb : O.kill 50 b1 = b1 := by
    have := kill_free (M := upd Mem.nil 1 (some b1)) (id := 50) (fun i o ho j hj => by
      unfold upd at ho
      split at ho
      · cases ho; rw [hb] at hj; cases hj
      · cases ho) rfl
    have h1 := congrFun this 1
    exact Option.some.inj h1
  funext j
  by_cases e10 : j = 10
  · subst e10; rw [upd_same, XU_10]
  rw [upd_ne _ _ e10]
  by_cases e50 : j = 50
  · subst e50; rw [upd_same, XU_50]
  rw [upd_ne _ _ e50, killM_app]
  by_cases e1 : j = 1
  · subst e1; rw [XU_1, XU_1, Option.map_some, kb]
  by_cases e5 : j = 5
  · subst e5; rw [XU_5, XU_5]; rfl
  by_cases e29 : j = 29
  · subst e29; rw [XU_29, XU_29, Option.map_some, kill_inL (by decide)]
  by_cases e44 : j = 44
  · subst e44; rw [XU_44, XU_44, Option.map_some, kill_ownL (by decide)]
  rw [XU_other e1 e5 e29 e44 e10 e50, XU_other e1 e5 e29 e44 e10 e50]; rfl
theorem XU_ids {j : Nat} {o : O} (hb : b1.ids = []) (ho : XU b1 rg n ws j = some o) : ∀ i ∈ o.ids, i = 29 ∨ i = 50 ∨ (∃ e, e < n ∧ i = sN e) ∨ ∃ e, e < rg ∧ i = sN (n + e) := fun i hi => by
  by_cases e1 : j = 1
  · subst e1; rw [XU_1] at ho; cases ho; rw [hb] at hi; cases hi
  by_cases e5 : j = 5
  · subst e5; rw [XU_5] at ho; cases ho; simp [O.ids, A.ids] at hi; exact .inl hi
  by_cases e29 : j = 29
  · subst e29; rw [XU_29] at ho; cases ho
    simp only [O.ids, inL, List.mem_flatMap, List.mem_map, List.mem_range] at hi
    obtain ⟨a, ⟨e, he, rfl⟩, hi⟩ := hi
    simp [A1.ids] at hi
    exact .inr (.inr (.inl ⟨e, he, hi⟩))
  by_cases e44 : j = 44
  · subst e44; rw [XU_44] at ho; cases ho
    simp only [O.ids, ownL, List.mem_flatMap, List.mem_map, List.mem_range] at hi
    obtain ⟨a, ⟨e, he, rfl⟩, hi⟩ := hi
    simp [A1.ids] at hi
    exact .inr (.inr (.inr ⟨e, he, hi⟩))
  by_cases e10 : j = 10
  · subst e10; rw [XU_10] at ho; cases ho; simp [O.ids, A.ids] at hi; exact .inr (.inl hi)
  by_cases e50 : j = 50
  · subst e50; rw [XU_50] at ho; cases ho; simp [O.ids] at hi
  rw [XU_other e1 e5 e29 e44 e10 e50] at ho; cases ho
theorem XU_some {ws' : List Nat} {j : Nat} (h : (XU b1 rg n ws j).isSome = true) : (XU b1 rg n ws' j).isSome = true := by
  by_cases e1 : j = 1
  · subst e1; rfl
  by_cases e5 : j = 5
  · subst e5; rfl
  by_cases e29 : j = 29
  · subst e29; rfl
  by_cases e44 : j = 44
  · subst e44; rfl
  by_cases e10 : j = 10
  · subst e10; rfl
  by_cases e50 : j = 50
  · subst e50; rfl
  rw [XU_other e1 e5 e29 e44 e10 e50] at h; cases h
theorem XU_wf (hb : b1.ids = []) {K N : Nat} {F : Nat → Nat → Bool} (hK : n + rg ≤ K) : WFm (setsM K N F (XU b1 rg n ws)) := setsM_wf fun id o ho j hj => by
  rcases XU_ids hb ho j hj with rfl | rfl | ⟨e, he, rfl⟩ | ⟨e, he, rfl⟩
  · rw [setsM_lo (by decide)]; rfl
  · rw [setsM_lo (by decide)]; rfl
  · exact setsM_isSome_s (by omega)
  · exact setsM_isSome_s (by omega)
end
set_option maxHeartbeats 8000000 in
theorem flow_ok (b1 : O) (hb : b1.ids = []) (rg n K : Nat) (F : Nat → Nat → Bool) (ws : List Nat) (hN : rg + n ≤ 1000000) (hK : n + rg ≤ K) (hws : ws.length ≤ 1000000000) (i t : Nat) (ht : t < n) (hi : i < K) (hti : t ≠ i) (hFi : ∀ d, F i d = true → d < rg + n) :
    CallE Tryd.prog 20 [.ptr (sN i) 0, .c (.int .i64 t), .ptr 5 0, .ptr 10 0] (setsM K (rg + n) F (XU b1 rg n ws)) [50] (.tup []) (setsM K (rg + n) (setF F t (orF (F t) (F i))) (XU b1 rg n (if chgB (F t) (orF (F t) (F i)) (nw (rg + n)) = true then ws ++ [t] else ws))) := by
  obtain ⟨N, hNe⟩ : ∃ N, N = rg + n := ⟨_, rfl⟩
  rw [← hNe] at hFi hN ⊢
  have hX100 : ∀ j, 100 ≤ j → XU b1 rg n ws j = none := fun j hj => XU_far (by omega)
  have lo5 : ∀ K F X, setsM K N F X 5 = X 5 := fun K F X => setsM_lo (by decide)
  have lo29 : ∀ K F X, setsM K N F X 29 = X 29 := fun K F X => setsM_lo (by decide)
  have lo10 : ∀ K F X, setsM K N F X 10 = X 10 := fun K F X => setsM_lo (by decide)
  have lo50 : ∀ K F X, setsM K N F X 50 = X 50 := fun K F X => setsM_lo (by decide)
  have hun := unionM_ok (K := K) (F := F) (X := XU b1 rg n ws) hN hX100 (k := t) (i := i) (by omega) hi hti hFi
  have ht0 : (0 : Int) ≤ (t : Int) := by omega
  refine (ok_eff tab_ok [50] Tryd.func20 (by kernel_rfl) rfl rfl (by rfl) (by rfl) ?ids ?res ?sub ?wfm (fun hWF Rr hkeep => ?_))
  case ids =>
    intro y hy j hj
    simp at hy
    rcases hy with rfl | rfl | rfl | rfl <;> simp [A.ids] at hj <;> subst hj
    · exact setsM_isSome_s hi
    · rw [lo5]; rfl
    · rw [lo10]; rfl
  case res => intro j hj; simp [A.ids] at hj
  case sub => exact fun j hj => setsM_live (Nat.le_refl _) (fun j h => XU_some h) j hj
  case wfm => exact fun hw => XU_wf hb hK
  have nk50 : ¬ Rr.keep 50 := by rw [hkeep]; rintro ⟨-, h⟩; exact h (by simp)
  (repeat (first | refine W.seq ?_ | refine W.block ?_ | refine W.skip ?_ | refine W.exit ?_))
  refine W.regionK tab_ok 60 (by decide) ?_
  refine runk_split 5 (by simp only [exa, beq_self_eq_true, ByteArray.size, Nat.reduceAdd, Nat.reduceLeDiff, Nat.reduceEqDiff, Nat.reduceMul, Int.reduceToNat, reduceIte, Int.reduceLE, Int.reduceNeg, lo5, lo29, XU_5, XU_29, inL_len, inL_at ht, ht, ht0, Int.toNat_natCast, and_self]; rfl) ?_
  refine runk_callE (D := []) rfl rfl rfl rfl rfl (fun j hj => by simp at hj) (by simp) (cvs_cons cv_refl (cvs_cons cv_refl cvs_nil)) hun ?_
  simp only [killL, putS, upd_upd]
  refine runk_exec (by simp only [exa, beq_self_eq_true, ByteArray.size, Nat.reduceAdd, Nat.reduceLeDiff, Nat.reduceEqDiff, Nat.reduceMul, Int.reduceToNat, reduceIte, Int.reduceLE, Int.reduceNeg]; rfl) ?_
  cases hc : chgB (F t) (orF (F t) (F i)) (nw N) with
  | false =>
    refine W.cond rfl (fun h => absurd h (by simp)) (fun _ => ?_)
    (repeat (first | refine W.seq ?_ | refine W.block ?_ | refine W.skip ?_ | refine W.exit ?_))
    refine ⟨.inl rfl, by rfl, ?_, ?_⟩
    · simp only [Tryd.f20, resE]
    · exact mle_refl' (by simp)
  | true =>
    refine W.cond rfl (fun _ => ?_) (fun h => absurd h (by simp))
    (repeat (first | refine W.seq ?_ | refine W.block ?_ | refine W.skip ?_ | refine W.exit ?_))
    refine W.regionK tab_ok 60 (by decide) ?_
    refine runk_split 3 (by simp only [exa, beq_self_eq_true, ByteArray.size, Nat.reduceAdd, Nat.reduceLeDiff, Nat.reduceEqDiff, Nat.reduceMul, Int.reduceToNat, reduceIte, Int.reduceLE, Int.reduceNeg, lo10, lo50, XU_10, XU_50]; rfl) ?_
    refine runk_appendM tab_ok 50 rfl rfl rfl rfl rfl rfl (by simp only [exa, beq_self_eq_true, ByteArray.size, Nat.reduceAdd, Nat.reduceLeDiff, Nat.reduceEqDiff, Nat.reduceMul, Int.reduceToNat, reduceIte, Int.reduceLE, Int.reduceNeg, lo10, lo50, XU_10, XU_50]) (by simp only [exa, beq_self_eq_true, ByteArray.size, Nat.reduceAdd, Nat.reduceLeDiff, Nat.reduceEqDiff, Nat.reduceMul, Int.reduceToNat, reduceIte, Int.reduceLE, Int.reduceNeg, lo10, lo50, XU_10, XU_50]; rfl) (by first | rfl | (simp only [exa, beq_self_eq_true, ByteArray.size, Nat.reduceAdd, Nat.reduceLeDiff, Nat.reduceEqDiff, Nat.reduceMul, Int.reduceToNat, reduceIte, Int.reduceLE, Int.reduceNeg, lo10, lo50, XU_10, XU_50]; rfl)) rfl rfl rfl rfl nk50 (by intro z hz; simp at hz; subst hz; rfl) (by simp only [List.length_map, List.length_append, List.length_cons, List.length_nil]; omega) (by decide) ?_
    refine runk_exec (by simp only [exa, beq_self_eq_true, ByteArray.size, Nat.reduceAdd, Nat.reduceLeDiff, Nat.reduceEqDiff, Nat.reduceMul, Int.reduceToNat, reduceIte, Int.reduceLE, Int.reduceNeg, lo10, XU_10, XU_50, lo50]; rfl) ?_
    refine ⟨.inl rfl, by rfl, ?_, ?_⟩
    · simp only [Tryd.f20, resE]
    · refine mle_refl' ?_
      dsimp only
      rw [setsM_kill (by decide), setsM_upd (by decide), setsM_upd (by decide), if_pos rfl, ← XU_turn (b1 := b1) (rg := rg) (n := n) (ws := ws) (ws' := ws ++ [t]) hb, List.map_append]
      rfl
end V
end Go.Proofs.YtcldeoolglhdoaaDoor
end
section
namespace Go.Proofs.YtcldeoolglhdoaaDoor
namespace V
open Go.RowKit
section
variable {P : Go.Program} {T : Tab} {base : Nat} {ops : Array Oper} (hT : T.Ok P) {R : Ref} {w : World} {n : Nat} {ds : List Deferred} {l n' : Nat}
include hT
theorem plain_round (hd : ∀ o ∈ ops, ∀ d, o.dst = some d → d < n) (hnd : noDefer ops = true) {Q : Exit → Act → World → Prop} {st' : St} (hQ : ∀ a w, SR R n ds st' a w → Q .normal a w) :
    ∀ (L : List Nat) (st : St) (a : Act) (w : World), Chain P T R.keep base ops L st st' → SR R n ds st a w → wpOpsIn (Fence.wide.inRound l) n' P ops Q L a w
  | [], st, a, w, h, hr => by cases h; exact hQ a w hr
  | i :: L, st, a, w, h, hr => by
    cases h with
    | @cons _ o _ _ st1 _ hi h1 t =>
      unfold wpOpsIn
      simp only [hi]
      have hgo := h1.snd hT hr (hd o (Array.mem_of_getElem? hi)) (K := wpOpsIn (Fence.wide.inRound l) n' P ops Q L) (Q := Q) (fun a' w' hr' => plain_round hd hnd hQ L st1 a' w' t hr')
      split
      · rename_i hw; rw [if_pos hw] at hgo; exact oper_round (noDefer_spec hnd hi) hgo
      · rename_i hw; rw [if_neg hw] at hgo; exact ⟨fun _ _ => trivial, hgo⟩
end
def WI (l n' : Nat) (P : Go.Program) (R : Ref) (n : Nat) (ds : List Deferred) (st : St) (c : Code) (K : Exit → St → Prop) : Prop :=
  ∀ a w, SR R n ds st a w → c.wpIn (Fence.wide.inRound l) n' P (fun e a' w' => ∃ st', K e st' ∧ SR R n ds st' a' w') a w
section
variable {l n' : Nat} {P : Go.Program} {T : Tab} {R : Ref} {n : Nat} {ds : List Deferred} {st : St} {K : Exit → St → Prop}
theorem WI.mono {c : Code} {K' : Exit → St → Prop} (h : WI l n' P R n ds st c K) (hk : ∀ e st', K e st' → K' e st') : WI l n' P R n ds st c K' :=
  fun a w hr => wpIn_mono (h a w hr) fun e _ _ ⟨st', h1, h2⟩ => ⟨st', hk e st' h1, h2⟩
theorem WI.region (hT : T.Ok P) (base : Nat) {id : Nat} {ops : Array Oper} {st' : St} (hd : dstOk n ops = true) (hnd : noDefer ops = true) (h : RunL P T R.keep base ops ops.toList st st') (hk : K .normal st') : WI l n' P R n ds st (.region id ops false) K := fun a w hr =>
  wpIn_region (plain_round hT (dstOk_spec hd) hnd (fun a w hr' => ⟨st', hk, hr'⟩) _ st a w (by rw [range_range']; have := h.chain (k := 0) (by simp); simpa using this) hr)
theorem WI.regionD (hT : T.Ok P) (base : Nat) {id : Nat} {ops : Array Oper} {st' : St} (hm : P.follows .mixedOrders = true) (hok : okRegion T ops = true) (hd : dstOk n ops = true) (hnd : noDefer ops = true) (h : RunL P T R.keep base ops ops.toList st st') (hk : K .normal st') : WI l n' P R n ds st (.region id ops true) K := fun a w hr => by
  refine wpIn_mono (Q := fun e a w => e = .normal ∧ SR R n ds st' a w) (region_round (fun ⟨_, _, h, _⟩ => by cases h) hm hnd (any_snd hT hok (dstOk_spec hd) (fun a w hr' => ⟨rfl, hr'⟩) _ _ (List.range ops.size) st a _ (by simp) (by simp) (List.pairwise_lt_range) (fun i => ?_) (fun k o ho hl => ?_) ?_ (by rw [range_range']; have := h.chain (k := 0) (by simp); simpa using this))) fun e a w h => ⟨st', h.1 ▸ hk, h.2⟩
  · rw [List.mem_range]
    refine ⟨fun hi => ⟨hi, ?_⟩, fun hi => hi.1⟩
    simp [hi]
  · exfalso
    have hk := (Array.getElem?_eq_some_iff.1 ho).1
    simp [hk] at hl
  · obtain ⟨⟨B, I, hmr, hx0, hkp, hs⟩, h2, h3, hnn, h4, h5⟩ := hr
    have hE : Ext w w.drew I I := ⟨fun _ _ k => k, fun _ _ _ => rfl⟩
    exact ⟨⟨B, I, hmr.call (Below.refl _ _).drew, hx0.trans hE, hkp, fun t => (hs t).mono hE fun _ _ => rfl⟩, h2, h3, hnn, h4, h5⟩
theorem WI.seq {x y : Code} (h : WI l n' P R n ds st x (thenK (fun st' => WI l n' P R n ds st' y K) K)) : WI l n' P R n ds st (.seq x y) K := fun a w hr =>
  wpIn_seq (wpIn_mono (h a w hr) fun e a' w' ⟨st', h1, h2⟩ => by
    cases e with
    | normal => exact h1 a' w' h2
    | _ => exact ⟨st', h1, h2⟩)
theorem WI.cond {c : Operand} {x y : Code} {b : Bool} (hc : ev st.s c = .c (.bool b)) (ht : b = true → WI l n' P R n ds st x K) (hf : b = false → WI l n' P R n ds st y K) : WI l n' P R n ds st (.cond c x y) K := fun a w hr => by
  obtain ⟨B, I, hm, -, -, hs⟩ := hr.ex
  have := ev_rv hs c
  rw [hc] at this
  exact wpIn_cond_split (RC.toBool this) (fun e => ht e a w hr) (fun e => hf e a w hr)
theorem WI.block {id : Nat} {c : Code} (h : WI l n' P R n ds st c (blockK id K)) : WI l n' P R n ds st (.block id c) K := fun a w hr =>
  wpIn_block (wpIn_mono (h a w hr) fun e a' w' ⟨st', h1, h2⟩ => by
    cases e with
    | exit j =>
      simp only [blockK, Exit.inBlock] at h1 ⊢
      split
      · rename_i e; rw [if_pos e] at h1; exact ⟨st', h1, h2⟩
      · rename_i e; rw [if_neg e] at h1; exact ⟨st', h1, h2⟩
    | _ => exact ⟨st', h1, h2⟩)
theorem WI.exit {id : Nat} (h : K (.exit id) st) : WI l n' P R n ds st (.exit id) K := fun _ _ hr => wpIn_exit ⟨st, h, hr⟩
theorem WI.ret (h : K .ret st) : WI l n' P R n ds st .ret K := fun _ _ hr => wpIn_ret ⟨st, h, hr⟩
theorem WI.skip (h : K .normal st) : WI l n' P R n ds st .skip K := fun _ _ hr => wpIn_skip ⟨st, h, hr⟩
theorem WI.weaken {st' : St} {c : Code} (hl : Le R.keep st st') (h : WI l n' P R n ds st' c K) : WI l n' P R n ds st c K := fun a w hr => h a w (hr.le hl)
theorem WI.loop {ι : Type} {c : Code} (mk : ι → St) (Inv : ι → Prop) (μ : ι → Nat) (i0 : ι) (hl : Le R.keep st (mk i0)) (h0 : Inv i0)
    (hround : ∀ i, Inv i → WI l n' P R n ds (mk i) c (thenK (fun st' => ∃ i', Inv i' ∧ μ i' < μ i ∧ Le R.keep st' (mk i')) K)) : WI l n' P R n ds st (.loop c) K := by
  refine WI.weaken hl ?_
  intro a w hr
  refine wpIn_loop_ghost (fun k a w => ∃ i, Inv i ∧ μ i = k ∧ SR R n ds (mk i) a w) (μ i0) ⟨i0, h0, rfl, hr⟩ ?_
  rintro k a w ⟨i, hi, rfl, hr⟩
  refine wpIn_mono (hround i hi a w hr) ?_
  rintro e a' w' ⟨st', h1, h2⟩
  cases e with
  | normal =>
    obtain ⟨i', hi', hlt, hle⟩ := h1
    exact ⟨μ i', hlt, i', hi', rfl, h2.le hle⟩
  | _ => exact ⟨st', h1, h2⟩
theorem WI.regionK (hT : T.Ok P) (base : Nat) {id : Nat} {ops : Array Oper} (hd : dstOk n ops = true) (hnd : noDefer ops = true) (h : RunK P T R.keep base ops ops.toList st (K .normal)) : WI l n' P R n ds st (.region id ops false) K :=
  let ⟨_, h1, h2⟩ := h
  WI.region hT base hd hnd h1 h2
theorem WI.regionDK (hT : T.Ok P) (base : Nat) {id : Nat} {ops : Array Oper} (hm : P.follows .mixedOrders = true) (hok : okRegion T ops = true) (hd : dstOk n ops = true) (hnd : noDefer ops = true) (h : RunK P T R.keep base ops ops.toList st (K .normal)) : WI l n' P R n ds st (.region id ops true) K :=
  let ⟨_, h1, h2⟩ := h
  WI.regionD hT base hm hok hd hnd h1 h2
end
end V
end Go.Proofs.YtcldeoolglhdoaaDoor
end
section
set_option linter.unusedVariables false
set_option linter.unusedSimpArgs false
namespace Go.Proofs.YtcldeoolglhdoaaDoor
namespace V
open Go.RowKit
def Runs (P : Go.Program) (T : Tab) (kp : Nat → Prop) (base : Nat) (ops : Array Oper) (K : St → Prop) : Nat → Array Bool → St → Prop
  | 0, listed, st => Region.ready .any ops listed = [] ∧ K st
  | f + 1, listed, st => (Region.ready .any ops listed = [] → K st) ∧ ∀ i ∈ Region.ready .any ops listed, ∀ o, ops[i]? = some o → ∃ st1, HS P T kp base ops o st st1 ∧ Runs P T kp base ops K f (listed.setIfInBounds i true) st1
section
variable {P : Go.Program} {T : Tab} (hT : T.Ok P) {R : Ref} {w : World} {n base : Nat} {ds : List Deferred} {ops : Array Oper}
include hT in
theorem runs_snd (hd : ∀ o ∈ ops, ∀ d, o.dst = some d → d < n) {K : St → Prop} {Q : Exit → Act → World → Prop} (hQ : ∀ st a w, K st → SR R n ds st a w → Q .normal a w) :
    ∀ (fuel : Nat) (listed : Array Bool) (st : St) (a : Act) (w : World), Runs P T R.keep base ops K fuel listed st → SR R n ds st a w → wpAny P .any ops Q fuel listed a w := by
  intro fuel
  induction fuel with
  | zero =>
    intro listed st a w h hr
    exact ⟨h.1, hQ _ _ _ h.2 hr⟩
  | succ fuel ih =>
    intro listed st a w h hr
    obtain ⟨h0, h1⟩ := h
    constructor
    · intro hnil
      exact hQ _ _ _ (h0 hnil) hr
    · intro i hi
      obtain ⟨-, oi, h2, -⟩ := mem_ready.1 hi
      obtain ⟨st1, h4, h5⟩ := h1 i hi oi h2
      unfold wpOp
      rw [h2]
      have hgo := h4.snd hT hr (hd oi (Array.mem_of_getElem? h2)) (K := wpAny P .any ops Q fuel (listed.setIfInBounds i true)) (Q := Q) (fun a' w' hr' => ih _ _ _ _ h5 hr')
      dsimp only
      split
      · rename_i hw; rw [if_pos hw] at hgo; exact .inl hgo
      · rename_i hw; rw [if_neg hw] at hgo; exact hgo
end
section
variable {P : Go.Program} {T : Tab} {kp : Nat → Prop} {base f : Nat} {ops : Array Oper} {K : St → Prop} {listed : Array Bool} {st st1 st2 : St}
theorem runs_end (hr : Region.ready .any ops listed = []) (hk : K st) : Runs P T kp base ops K f listed st := by
  cases f with
  | zero => exact ⟨hr, hk⟩
  | succ f => exact ⟨fun _ => hk, fun i hi => by rw [hr] at hi; cases hi⟩
theorem run_one {o : Oper} (h : exec T base ops [o] st = some st1) : HS P T kp base ops o st st1 := by
  have := exec_run (P := P) (kp := kp) h
  cases this with
  | cons h t => cases t; exact h
end
section
variable {l n' : Nat} {P : Go.Program} {T : Tab} {R : Ref} {n : Nat} {ds : List Deferred} {st : St} {K : Exit → St → Prop}
end
end V
end Go.Proofs.YtcldeoolglhdoaaDoor
end
section
set_option linter.unusedVariables false
set_option linter.unusedSimpArgs false
namespace Go.Proofs.YtcldeoolglhdoaaDoor
namespace V
open Go.RowKit
def firstB (T : Tab) (ops : Array Oper) (listed : Array Bool) (i : Nat) : Bool :=
  (Region.ready .any ops listed).contains i && (List.range ops.size).all fun j => j == i || listed.getD j true || (match ops[i]?, ops[j]? with | some oi, some oj => indep T ops oi oj | _, _ => false) || ancB ops ops.size j i
section
variable {P : Go.Program} {T : Tab} {kp : Nat → Prop} {base : Nat} {ops : Array Oper} {K : St → Prop}
theorem getD_set {listed : Array Bool} {i k : Nat} {d : Bool} : (listed.setIfInBounds i true).getD k d = if i = k ∧ i < listed.size then true else listed.getD k d := by
  rw [Array.getD_eq_getD_getElem?, Array.getD_eq_getD_getElem?, Array.getElem?_setIfInBounds]
  by_cases e : i = k
  · subst e
    by_cases h : i < listed.size
    · simp [h]
    · simp [h]
  · simp [e]
theorem closed_set {listed : Array Bool} {i : Nat} (hsz : listed.size = ops.size) (hc : ClosedL ops listed) (hi : i ∈ Region.ready .any ops listed) : ClosedL ops (listed.setIfInBounds i true) := by
  obtain ⟨h1, oi, h2, h3⟩ := mem_ready.1 hi
  have hlt := (Array.getElem?_eq_some_iff.1 h2).1
  intro k o hk hl e he hb
  have up : listed.getD e.on false = true → (listed.setIfInBounds i true).getD e.on false = true := fun h => by
    rw [getD_set]; split
    · rfl
    · exact h
  rw [getD_set] at hl
  by_cases q : i = k
  · subst q
    rw [h2] at hk
    cases hk
    exact up (h3 e he hb)
  · rw [if_neg (fun z => q z.1)] at hl
    exact up (hc k o hk hl e he hb)
theorem ready_set {listed : Array Bool} {i k : Nat} (hne : k ≠ i) (hk : k ∈ Region.ready .any ops listed) : k ∈ Region.ready .any ops (listed.setIfInBounds i true) := by
  obtain ⟨h1, o, h2, h3⟩ := mem_ready.1 hk
  refine mem_ready.2 ⟨?_, o, h2, fun e he hb => ?_⟩
  · rw [getD_set, if_neg (fun z => hne z.1.symm)]; exact h1
  · rw [getD_set]; split
    · rfl
    · exact h3 e he hb
theorem set_comm {listed : Array Bool} {i k : Nat} (h : i ≠ k) : (listed.setIfInBounds i true).setIfInBounds k true = (listed.setIfInBounds k true).setIfInBounds i true := by
  apply Array.ext_getElem?
  intro j
  simp only [Array.getElem?_setIfInBounds, Array.size_setIfInBounds]
  by_cases h1 : i = j
  · have h2 : k ≠ j := fun e => h (h1.trans e.symm)
    simp [h1, h2]
  · simp [h1]
theorem por {i : Nat} {oi : Oper} (hoi : ops[i]? = some oi) : ∀ (f : Nat) (listed : Array Bool) (st st1 : St), listed.size = ops.size → ClosedL ops listed → firstB T ops listed i = true → WF st → HS P T kp base ops oi st st1 → Runs P T kp base ops K f (listed.setIfInBounds i true) st1 →
    Runs P T kp base ops K (f + 1) listed st := by
  intro f
  induction f with
  | zero =>
    intro listed st st1 hsz hc hf hw h hr
    simp only [firstB, Bool.and_eq_true] at hf
    have hi : i ∈ Region.ready .any ops listed := by simpa using hf.1
    refine ⟨(fun e => by rw [e] at hi; cases hi), fun k hk o ho => ?_⟩
    by_cases e : k = i
    · subst e
      rw [hoi] at ho; cases ho
      exact ⟨st1, h, hr⟩
    · have := ready_set e hk
      rw [hr.1] at this; cases this
  | succ f ih =>
    intro listed st st1 hsz hc hf hw h hr
    have hf0 := hf
    simp only [firstB, Bool.and_eq_true] at hf
    have hi : i ∈ Region.ready .any ops listed := by simpa using hf.1
    obtain ⟨i1, oi', i2, i3⟩ := mem_ready.1 hi
    refine ⟨(fun e => by rw [e] at hi; cases hi), fun k hk o ho => ?_⟩
    by_cases e : k = i
    · subst e
      rw [hoi] at ho; cases ho
      exact ⟨st1, h, hr⟩
    · obtain ⟨k1, ok, k2, k3⟩ := mem_ready.1 hk
      rw [k2] at ho; cases ho
      obtain ⟨st2, q1, q2⟩ := hr.2 k (ready_set e hk) o k2
      have hlt := (Array.getElem?_eq_some_iff.1 k2).1
      have hind : indep T ops oi o = true := by
        have := List.all_eq_true.1 hf.2 k (List.mem_range.2 hlt)
        simp only [Bool.or_eq_true, beq_iff_eq, hoi, k2] at this
        rcases this with ((z | z) | z) | z
        · exact absurd z e
        · rw [k1] at z; cases z
        · exact z
        · have hl := anc_listed hc _ k o k2 k3 z
          rw [getD_tf hl] at i1; cases i1
      obtain ⟨st3, c1, c2⟩ := HS.comm hind hw h q1
      refine ⟨st3, c1, ih _ st3 st2 (by simpa using hsz) (closed_set hsz hc hk) ?_ (HS.wf hw c1) c2 (by rw [← set_comm (Ne.symm e)]; exact q2)⟩
      simp only [firstB, Bool.and_eq_true]
      refine ⟨by simpa using ready_set (Ne.symm e) hi, List.all_eq_true.2 fun j hj => ?_⟩
      have := List.all_eq_true.1 hf.2 j hj
      simp only [Bool.or_eq_true] at this ⊢
      rcases this with ((z | z) | z) | z
      · exact .inl (.inl (.inl z))
      · refine .inl (.inl (.inr ?_))
        rw [getD_set]; split
        · rfl
        · exact z
      · exact .inl (.inr z)
      · exact .inr z
def RunsW (P : Go.Program) (T : Tab) (kp : Nat → Prop) (base : Nat) (ops : Array Oper) (K : St → Prop) (f : Nat) (listed : Array Bool) (st : St) : Prop := listed.size = ops.size → ClosedL ops listed → WF st → Runs P T kp base ops K f listed st
theorem runs_first {f : Nat} {listed : Array Bool} {st : St} (i : Nat) {o : Oper} (ho : ops[i]? = some o) (hf : firstB T ops listed i = true) (h : ∃ st1, HS P T kp base ops o st st1 ∧ RunsW P T kp base ops K f (listed.setIfInBounds i true) st1) : RunsW P T kp base ops K (f + 1) listed st := by
  intro hsz hc hw
  obtain ⟨st1, h1, h2⟩ := h
  have hi : i ∈ Region.ready .any ops listed := by
    simp only [firstB, Bool.and_eq_true] at hf
    simpa using hf.1
  exact por ho f listed st st1 hsz hc hf hw h1 (h2 (by simpa using hsz) (closed_set hsz hc hi) (HS.wf hw h1))
def Steps (P : Go.Program) (T : Tab) (kp : Nat → Prop) (base : Nat) (ops : Array Oper) (K : St → Prop) (f : Nat) (listed : Array Bool) (st : St) : List Nat → Prop
  | [] => True
  | i :: l => (∃ o st1, ops[i]? = some o ∧ HS P T kp base ops o st st1 ∧ RunsW P T kp base ops K f (listed.setIfInBounds i true) st1) ∧ Steps P T kp base ops K f listed st l
theorem steps_mem {f : Nat} {listed : Array Bool} {st : St} : ∀ {l : List Nat}, Steps P T kp base ops K f listed st l → ∀ i ∈ l, ∃ o st1, ops[i]? = some o ∧ HS P T kp base ops o st st1 ∧ RunsW P T kp base ops K f (listed.setIfInBounds i true) st1
  | [], _, i, hi => by cases hi
  | j :: l, h, i, hi => by
    rcases List.mem_cons.1 hi with rfl | hi
    · exact h.1
    · exact steps_mem h.2 i hi
theorem runs_node {f : Nat} {listed : Array Bool} {st : St} (l : List Nat) (hr : Region.ready .any ops listed = l) (hne : l ≠ []) (h : Steps P T kp base ops K f listed st l) : RunsW P T kp base ops K (f + 1) listed st := by
  intro hsz hc hw
  refine ⟨fun e => absurd (hr.symm.trans e) hne, fun i hi o ho => ?_⟩
  obtain ⟨o', st1, h1, h2, h3⟩ := steps_mem h i (hr ▸ hi)
  rw [ho] at h1; cases h1
  exact ⟨st1, h2, h3 (by simpa using hsz) (closed_set hsz hc hi) (HS.wf hw h2)⟩
theorem runsw_end {f : Nat} {listed : Array Bool} {st : St} (hr : Region.ready .any ops listed = []) (hk : K st) : RunsW P T kp base ops K f listed st := fun _ _ _ => runs_end hr hk
def exec1 (T : Tab) (base : Nat) (ops : Array Oper) (i : Nat) (st : St) : Option St := match ops[i]? with
  | some o => exec T base ops [o] st
  | none => none
theorem exec1_hs {i : Nat} {st st1 : St} (h : exec1 T base ops i st = some st1) : ∃ o, ops[i]? = some o ∧ HS P T kp base ops o st st1 := by
  unfold exec1 at h
  split at h
  · rename_i o ho
    exact ⟨o, ho, run_one h⟩
  · cases h
theorem step_exec {f i : Nat} {listed : Array Bool} {st : St} {l : List Nat} (h : ∃ st1, exec1 T base ops i st = some st1 ∧ RunsW P T kp base ops K f (listed.setIfInBounds i true) st1) (t : Steps P T kp base ops K f listed st l) : Steps P T kp base ops K f listed st (i :: l) :=
  ⟨let ⟨st1, h1, h2⟩ := h; let ⟨o, ho, hs⟩ := exec1_hs h1; ⟨o, st1, ho, hs, h2⟩, t⟩
theorem first_exec {f : Nat} {listed : Array Bool} {st : St} (i : Nat) (hf : firstB T ops listed i = true) (h : ∃ st1, exec1 T base ops i st = some st1 ∧ RunsW P T kp base ops K f (listed.setIfInBounds i true) st1) : RunsW P T kp base ops K (f + 1) listed st :=
  let ⟨st1, h1, h2⟩ := h; let ⟨_, ho, hs⟩ := exec1_hs h1; runs_first i ho hf ⟨st1, hs, h2⟩
theorem runs_mono {K' : St → Prop} (hk : ∀ st, K st → K' st) : ∀ {f : Nat} {listed : Array Bool} {st : St}, Runs P T kp base ops K f listed st → Runs P T kp base ops K' f listed st
  | 0, _, _, h => ⟨h.1, hk _ h.2⟩
  | _ + 1, _, _, h => ⟨fun e => hk _ (h.1 e), fun i hi o ho => let ⟨st1, h1, h2⟩ := h.2 i hi o ho; ⟨st1, h1, runs_mono hk h2⟩⟩
theorem RunsW.mono {K' : St → Prop} (hk : ∀ st, K st → K' st) {f : Nat} {listed : Array Bool} {st : St} (h : RunsW P T kp base ops K f listed st) : RunsW P T kp base ops K' f listed st := fun a b c => runs_mono hk (h a b c)
theorem closed_none {n : Nat} (hn : ops.size = n) : ClosedL ops (Array.replicate n false) := fun k o hk h => by
  have hlt := (Array.getElem?_eq_some_iff.1 hk).1
  rw [Array.getD_eq_getD_getElem?, Array.getElem?_replicate, if_pos (by omega)] at h
  cases h
end
section
variable {l n' : Nat} {P : Go.Program} {T : Tab} {R : Ref} {n : Nat} {ds : List Deferred} {st : St} {K : Exit → St → Prop}
end
end V
end Go.Proofs.YtcldeoolglhdoaaDoor
end
section
set_option linter.unusedVariables false
set_option linter.unusedSimpArgs false
namespace Go.Proofs.YtcldeoolglhdoaaDoor
namespace V
open Go.RowKit
section
variable {P : Go.Program} {T : Tab} {kp : Nat → Prop} {base : Nat} {ops : Array Oper} {K : St → Prop}
end
def apartB (ops : Array Oper) (listed : Array Bool) (i : Nat) : Bool := match ops[i]? with
  | some oi => (List.range ops.size).all fun j => j == i || listed.getD j true || (match ops[j]? with | some oj => (oj.after.any fun e => Region.binds .any e && e.on == i) || oi.apart ops oj | none => true)
  | none => false
def noSelB (ops : Array Oper) : Bool := ops.all fun o => match o.op with | .select _ _ => false | _ => true
def RX (P : Go.Program) (R : Ref) (n : Nat) (ds : List Deferred) (ops : Array Oper) (K : St → Prop) (f : Nat) (listed : Array Bool) (st : St) : Prop :=
  listed.size = ops.size → ClosedL ops listed → ∀ a w, SR R n ds st a w → wpAny P .any ops (fun e a w => ∃ st', (e = Exit.normal ∧ K st') ∧ SR R n ds st' a w) f listed a w
section
variable {P : Go.Program} {T : Tab} {R : Ref} {n : Nat} {ds : List Deferred} {base : Nat} {ops : Array Oper} {K : St → Prop}
theorem rx_runs (hT : T.Ok P) (hd : dstOk n ops = true) {f : Nat} {listed : Array Bool} {st : St} (h : RunsW P T R.keep base ops K f listed st) : RX P R n ds ops K f listed st := fun h1 h2 a w hr =>
  runs_snd hT (dstOk_spec hd) (fun st' a w hk hr' => ⟨st', ⟨rfl, hk⟩, hr'⟩) _ _ st a _ (h h1 h2 hr.wf) hr
theorem rx_pure (hT : T.Ok P) (hd : dstOk n ops = true) (hns : noSelB ops = true) {f : Nat} {listed : Array Bool} {st : St} (i : Nat) {o : Oper} (ho : ops[i]? = some o) (hpu : ∀ a w, SR R n ds st a w → ∃ v, ∀ w', (execOp a.eval o).run P w' = .ok (.value v) w') (hg : o.guard = none) (hi : (Region.ready .any ops listed).contains i = true) (hap : apartB ops listed i = true)
    (h : ∃ st1, exec1 T base ops i st = some st1 ∧ RX P R n ds ops K f (listed.setIfInBounds i true) st1) : RX P R n ds ops K (f + 1) listed st := by
  intro hsz hc a w hr
  obtain ⟨st1, h1, h2⟩ := h
  have hi : i ∈ Region.ready .any ops listed := by simpa using hi
  obtain ⟨o', ho', hs⟩ := exec1_hs (P := P) (kp := R.keep) h1
  rw [ho] at ho'; cases ho'
  have hwant : ∀ a : Act, Region.wanted o (yielded ops a.tmps) = true := fun a => by simp [Region.wanted, hg]
  obtain ⟨v, hrun⟩ := hpu a w hr
  have hgo := hs.snd hT hr (hd := fun d e => dstOk_spec hd o (Array.mem_of_getElem? ho) d e) (K := fun a' w' => SR R n ds st1 a' w') (Q := fun _ _ _ => False) (fun a' w' hr' => hr')
  rw [if_pos (hwant a)] at hgo
  unfold Oper.wp at hgo
  rw [hrun] at hgo
  refine wpAny_first (oi := o) (v := v) ho (fun j oj cs b hj e => ?_) (fun c a w hq => by obtain ⟨_, ⟨hq, -⟩, -⟩ := hq; cases hq) f listed a w (fun j oj hj hji hl hne => ?_) hi (.inl ⟨hwant a, hrun⟩) (h2 (by simpa using hsz) (closed_set hsz hc hi) _ _ hgo)
  · have := Array.all_eq_true.1 hns j (Array.getElem?_eq_some_iff.1 hj).1
    rw [(Array.getElem?_eq_some_iff.1 hj).2, e] at this
    cases this
  · unfold apartB at hap
    rw [ho] at hap
    have hlt := (Array.getElem?_eq_some_iff.1 hj).1
    have := List.all_eq_true.1 hap j (List.mem_range.2 hlt)
    simp only [Bool.or_eq_true, beq_iff_eq, hj] at this
    rcases this with (z | z) | z | z
    · exact absurd z hji
    · rw [Array.getD_eq_getD_getElem?] at z hl
      rw [hl] at z; cases z
    · obtain ⟨q, hq, hz⟩ := Array.any_eq_true'.1 z
      simp only [Bool.and_eq_true, beq_iff_eq] at hz
      exact absurd hz.2 (hne q hq hz.1)
    · exact z
theorem rx_move (hT : T.Ok P) (hd : dstOk n ops = true) (hns : noSelB ops = true) {f : Nat} {listed : Array Bool} {st : St} (i : Nat) {o : Oper} {x : Operand} (ho : ops[i]? = some o) (hop : o.op = .move x) (hg : o.guard = none) (hi : (Region.ready .any ops listed).contains i = true) (hap : apartB ops listed i = true)
    (h : ∃ st1, exec1 T base ops i st = some st1 ∧ RX P R n ds ops K f (listed.setIfInBounds i true) st1) : RX P R n ds ops K (f + 1) listed st :=
  rx_pure hT hd hns i ho (fun a w _ => ⟨a.eval x, fun w' => by simp [execOp, hop]⟩) hg hi hap h
theorem rx_field (hT : T.Ok P) (hd : dstOk n ops = true) (hns : noSelB ops = true) {f : Nat} {listed : Array Bool} {st : St} (i : Nat) {o : Oper} {ty fl j off : Nat} {x : Operand} {q : Nat × Nat × Bool} (ho : ops[i]? = some o) (hop : o.op = .fieldAddr ty x fl) (hx : ev st.s x = .ptr j off) (hq : T.off ty fl = some q) (hg : o.guard = none) (hi : (Region.ready .any ops listed).contains i = true) (hap : apartB ops listed i = true)
    (h : ∃ st1, exec1 T base ops i st = some st1 ∧ RX P R n ds ops K f (listed.setIfInBounds i true) st1) : RX P R n ds ops K (f + 1) listed st :=
  rx_pure hT hd hns i ho (fun a w hr => by
    obtain ⟨B, I, hm, -, -, hs⟩ := hr.ex
    have := ev_rv hs x
    rw [hx] at this
    obtain ⟨b, -, hv⟩ := this
    obtain ⟨o1, n1, g1⟩ := q
    exact ⟨.pointer (some ⟨b, off + o1, none⟩), fun w' => by simp only [execOp, hop, hv, Sem.run_bind, run_fieldAddr hT hq, Result.andThen_ok]; rfl⟩) hg hi hap h
theorem W.regionX (hT : T.Ok P) {id : Nat} {st : St} {Kx : Exit → St → Prop} (hm : P.follows .mixedOrders = true) (can : St) (h : RX P R n ds ops (fun st' => Le R.keep st' can) ops.size (Array.replicate ops.size false) st) (hK : ∀ st', Le R.keep st' can → Kx .normal st') : W P R n ds st (.region id ops true) Kx := by
  intro a w hr
  have hx := h (by simp) (closed_none rfl) a { w with drawn := w.drawn + 1 } (by
    obtain ⟨⟨B, I, hmr, hx0, hkp, hs⟩, h2, h3, hnn, h4, h5⟩ := hr
    have hE : Ext w w.drew I I := ⟨fun _ _ k => k, fun _ _ _ => rfl⟩
    exact ⟨⟨B, I, hmr.call (Below.refl _ _).drew, hx0.trans hE, hkp, fun t => (hs t).mono hE fun _ _ => rfl⟩, h2, h3, hnn, h4, h5⟩)
  exact wp_mono (wp_region_any hm hx) fun e a w ⟨st', ⟨he, hk⟩, hs⟩ => ⟨st', he ▸ hK st' hk, hs⟩
end
end V
end Go.Proofs.YtcldeoolglhdoaaDoor
end
section
set_option linter.unusedVariables false
set_option linter.unusedSimpArgs false
namespace Go.Proofs.YtcldeoolglhdoaaDoor
namespace D18
open C17 G
open V (setF orF chgB)
theorem filter_sub_len {α : Type} {p q : α → Bool} : ∀ {l : List α}, (∀ x ∈ l, p x = true → q x = true) → (l.filter p).length ≤ (l.filter q).length
  | [], _ => by simp
  | x :: l, h => by
    have ih := filter_sub_len (l := l) fun y hy => h y (List.mem_cons_of_mem _ hy)
    have hx := h x (by simp)
    cases hp : p x <;> cases hq : q x <;> simp [List.filter_cons, hp, hq] at hx ⊢ <;> omega
theorem filter_lt_len {α : Type} {p q : α → Bool} : ∀ {l : List α}, (∀ x ∈ l, p x = true → q x = true) → (∃ x ∈ l, p x = false ∧ q x = true) → (l.filter p).length < (l.filter q).length
  | [], _, h => by obtain ⟨x, hx, _⟩ := h; cases hx
  | x :: l, h, hex => by
    have hx := h x (by simp)
    have hs := filter_sub_len (l := l) fun y hy => h y (List.mem_cons_of_mem _ hy)
    obtain ⟨y, hy, h1, h2⟩ := hex
    rcases List.mem_cons.1 hy with rfl | hy
    · simp [List.filter_cons, h1, h2]; omega
    · have ih := filter_lt_len (l := l) (fun y hy => h y (List.mem_cons_of_mem _ hy)) ⟨y, hy, h1, h2⟩
      cases hp : p x <;> cases hq : q x <;> simp [List.filter_cons, hp, hq] at hx ⊢ <;> omega
def szS (S : Nat → Bool) (N : Nat) : Nat := ((List.range N).filter S).length
def szA (In : Nat → Nat → Bool) (n N : Nat) : Nat := ((List.range n).map fun j => szS (In j) N).sum
theorem szS_le (S : Nat → Bool) (N : Nat) : szS S N ≤ N := by
  unfold szS
  refine Nat.le_trans (List.length_filter_le _ _) ?_
  simp
theorem szA_le (In : Nat → Nat → Bool) (N : Nat) : ∀ n, szA In n N ≤ n * N
  | 0 => by simp [szA]
  | n + 1 => by
    have ih := szA_le In N n
    have := szS_le (In n) N
    unfold szA at ih ⊢
    rw [List.range_succ, List.map_append, List.sum_append, Nat.succ_mul]
    simp; omega
theorem szA_set (In : Nat → Nat → Bool) (k : Nat) (S : Nat → Bool) (N : Nat) : ∀ n, szA (setF In k S) n N + (if k < n then szS (In k) N else 0) = szA In n N + (if k < n then szS S N else 0)
  | 0 => by simp [szA]
  | n + 1 => by
    have ih := szA_set In k S N n
    unfold szA at ih ⊢
    rw [List.range_succ, List.map_append, List.map_append, List.sum_append, List.sum_append]
    simp only [List.map_cons, List.map_nil, List.sum_cons, List.sum_nil]
    by_cases e : k = n
    · subst e
      rw [if_neg (Nat.lt_irrefl _), if_neg (Nat.lt_irrefl _)] at ih
      rw [if_pos (Nat.lt_succ_self _), if_pos (Nat.lt_succ_self _), V.setF_self]
      omega
    · rw [V.setF_other (Ne.symm e)]
      by_cases h : k < n
      · rw [if_pos h, if_pos h] at ih; rw [if_pos (by omega), if_pos (by omega)]; omega
      · rw [if_neg h, if_neg h] at ih; rw [if_neg (by omega), if_neg (by omega)]; omega
structure UInv (code : List Ins) (R : Nat) (In : Nat → Nat → Bool) (ws : List Nat) : Prop where
  snd : ∀ j d, In j d = true → Cm code R d j ∧ (rgD code R d).isSome = true
  fst : ∀ d, d < R → In 0 d = true
  cl : ∀ i k d, i < code.length → i ∉ ws → k ∈ nxN code i → outD code R In i d = true → In k d = true
  lt : ∀ i ∈ ws, i < code.length
structure UMid (code : List Ins) (R : Nat) (In : Nat → Nat → Bool) (ws : List Nat) (i : Nat) (ks : List Nat) (In' : Nat → Nat → Bool) (ws' : List Nat) : Prop where
  mono : ∀ j d, In j d = true → In' j d = true
  snd : ∀ j d, In' j d = true → Cm code R d j ∧ (rgD code R d).isSome = true
  same : ∀ j, j ∉ ws' → In' j = In j
  sub : ∀ j ∈ ws, j ∈ ws'
  done : ∀ k ∈ ks, ∀ d, outD code R In i d = true → In' k d = true
  lt : ∀ j ∈ ws', j < code.length
  pot : (code.length * (R + code.length) - szA In' code.length (R + code.length)) + ws'.length ≤ (code.length * (R + code.length) - szA In code.length (R + code.length)) + ws.length
section
variable {code : List Ins} {R : Nat} {In In' : Nat → Nat → Bool} {ws ws' ks : List Nat} {i k : Nat}
theorem rgD_N (ok : okD code R = true) {d : Nat} (h : (rgD code R d).isSome = true) : d < R + code.length := by
  obtain ⟨r, hr⟩ := Option.isSome_iff_exists.1 h
  exact (rgD_lt ok hr).2
theorem UMid.start (h : UInv code R In (i :: ws)) : UMid code R In ws i [] In ws :=
  ⟨fun _ _ h => h, h.snd, fun _ _ => rfl, fun _ h => h, (fun k hk => by cases hk), fun j hj => h.lt j (List.mem_cons_of_mem _ hj), Nat.le_refl _⟩
theorem UMid.next (ok : okD code R = true) (h0 : UInv code R In (i :: ws)) (h : UMid code R In ws i ks In' ws') (hk : k ∈ nxN code i) (hkn : k < code.length) :
    UMid code R In ws i (ks ++ [k]) (setF In' k (orF (In' k) (outD code R In i))) (if chgB (In' k) (orF (In' k) (outD code R In i)) (nw (R + code.length)) = true then ws' ++ [k] else ws') := by
  have hout : ∀ d, outD code R In i d = true → Cm code R d k ∧ (rgD code R d).isSome = true := fun d hd => out_sound h0.snd hk hd
  have hbR : ∀ d, In' k d = true → d < R + code.length := fun d hd => rgD_N ok (h.snd k d hd).2
  have hbS : ∀ d, orF (In' k) (outD code R In i) d = true → d < R + code.length := fun d hd => by
    unfold orF at hd
    rcases (Bool.or_eq_true _ _).mp hd with hd | hd
    · exact hbR d hd
    · exact rgD_N ok (hout d hd).2
  have hmono : ∀ j d, In' j d = true → setF In' k (orF (In' k) (outD code R In i)) j d = true := fun j d hd => by
    by_cases e : j = k
    · subst e; rw [V.setF_self]; unfold orF; rw [hd]; rfl
    · rw [V.setF_other e]; exact hd
  have hsnd : ∀ j d, setF In' k (orF (In' k) (outD code R In i)) j d = true → Cm code R d j ∧ (rgD code R d).isSome = true := fun j d hd => by
    by_cases e : j = k
    · subst e
      rw [V.setF_self] at hd
      unfold orF at hd
      rcases (Bool.or_eq_true _ _).mp hd with hd | hd
      · exact h.snd _ _ hd
      · exact hout d hd
    · rw [V.setF_other e] at hd; exact h.snd _ _ hd
  have hdone : ∀ q ∈ ks ++ [k], ∀ d, outD code R In i d = true → setF In' k (orF (In' k) (outD code R In i)) q d = true := fun q hq d hd => by
    rcases List.mem_append.1 hq with hq | hq
    · exact hmono q d (h.done q hq d hd)
    · have : q = k := by simpa using hq
      subst this
      rw [V.setF_self]; unfold orF; rw [hd]; simp
  have hset := szA_set In' k (orF (In' k) (outD code R In i)) (R + code.length) code.length
  rw [if_pos hkn, if_pos hkn] at hset
  have hle := szA_le (setF In' k (orF (In' k) (outD code R In i))) (R + code.length) code.length
  have hp := h.pot
  by_cases hc : chgB (In' k) (orF (In' k) (outD code R In i)) (nw (R + code.length)) = true
  · rw [if_pos hc]
    obtain ⟨d, hd⟩ := V.chg_true hc
    have hlt : szS (In' k) (R + code.length) < szS (orF (In' k) (outD code R In i)) (R + code.length) := by
      refine filter_lt_len (fun x _ hx => by unfold orF; rw [hx]; rfl) ⟨d, ?_, ?_⟩
      · refine List.mem_range.2 (hbS d ?_)
        unfold orF at hd ⊢
        cases h1 : In' k d <;> cases h2 : outD code R In i d <;> simp [h1, h2] at hd ⊢
      · unfold orF at hd ⊢
        cases h1 : In' k d <;> cases h2 : outD code R In i d <;> simp [h1, h2] at hd ⊢
    refine ⟨fun j d hd => hmono j d (h.mono j d hd), hsnd, fun j hj => ?_, fun j hj => List.mem_append_left _ (h.sub j hj), hdone, fun j hj => ?_, ?_⟩
    · have : j ≠ k := fun e => hj (by rw [e]; simp)
      rw [V.setF_other this]
      exact h.same j fun q => hj (List.mem_append_left _ q)
    · rcases List.mem_append.1 hj with hj | hj
      · exact h.lt j hj
      · have : j = k := by simpa using hj
        omega
    · rw [List.length_append, List.length_cons, List.length_nil]
      omega
  · rw [if_neg hc]
    have hsame := V.chg_false hbR hbS (by simpa using hc)
    have e : setF In' k (orF (In' k) (outD code R In i)) = In' := by
      funext j
      by_cases e : j = k
      · subst e; rw [V.setF_self]; exact hsame
      · rw [V.setF_other e]
    rw [e] at hdone ⊢
    exact ⟨h.mono, h.snd, h.same, h.sub, hdone, h.lt, hp⟩
theorem UMid.finish (h0 : UInv code R In (i :: ws)) (h : UMid code R In ws i (nxN code i) In' ws') : UInv code R In' ws' := by
  refine ⟨h.snd, fun d hd => h.mono 0 d (h0.fst d hd), fun j k d hj hjw hk ho => ?_, h.lt⟩
  have e := h.same j hjw
  have ho' : outD code R In j d = true := by unfold outD at ho ⊢; rw [e] at ho; exact ho
  by_cases hji : j = i
  · subst hji
    exact h.done k hk d ho'
  · exact h.mono k d (h0.cl j k d hj (fun q => by rcases List.mem_cons.1 q with q | q; exact hji q; exact hjw (h.sub j q)) hk ho')
theorem UInv.all (ok : okD code R = true) (h : UInv code R In []) {j d : Nat} (hj : j < code.length) (hd : (rgD code R d).isSome = true) : In j d = true ↔ Cm code R d j :=
  ⟨fun hx => (h.snd j d hx).1, fun hx => all_there h.fst (fun i k d hi hk ho => h.cl i k d hi (by simp) hk ho) hd hx ok⟩
end
end D18
end Go.Proofs.YtcldeoolglhdoaaDoor
end
