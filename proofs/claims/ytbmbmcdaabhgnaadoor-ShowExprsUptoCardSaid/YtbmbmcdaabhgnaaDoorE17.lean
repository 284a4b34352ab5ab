/- Joined by my own program, in build order: Cd3, Ps, Bd, Frz, Veff, Be, Bw, Pd, Vk, Ly, Li, Vs, Vtree, Vpor, Vpan, Dt, Sh, Nxj, Ex, Sb, Dn, Sx, Rt. -/
import Derived.Test.YtbmbmcdaabhgnaaDoorE16
import Derived.Lib.LaidTab
import Derived.Lib.AppendStr
import Derived.Test.YtbmbmcdaabhgnaaDoorChecked
import Derived.Lib.Builder
import Derived.Lib.UnsafeStr
import Derived.WalkKit
import Derived.Laws.Externs
import Derived.Tactics
import Derived.Tactics2
import Derived.Defers
import Derived.Test.YtbmbmcdaabhgnaaDoorE9
import Derived.Test.YtbmbmcdaabhgnaaDoorE12
import Derived.Sort.LoopGhostIn
import Derived.Test.YtbmbmcdaabhgnaaDoorE10
import Derived.Test.YtbmbmcdaabhgnaaDoorE4
import Derived.Lib.ItoaLen
import Derived.Lib.AppendIntMem
import Derived.Shelf.RegionOpenPlain
import Derived.Lib.Strings
import Derived.Lib.Walk
import Derived.Test.YtbmbmcdaabhgnaaDoorE13
import Derived.Test.YtbmbmcdaabhgnaaDoorE11
set_option linter.unusedVariables false
set_option linter.unusedSimpArgs false
section
set_option linter.unusedVariables false
set_option linter.unusedSimpArgs false
namespace Go.Proofs.YtbmbmcdaabhgnaaDoor
open Go.ChangeShapes Go.WideShapes Go.ChangeAt Go.RowKit
open V
theorem tabIs_of_vars {P : Go.Program} {W : World} {name : String} {k : IntKind} {zs : List Int} {g : Nat} {t e : TypeId} {n : Nat}
    (hg : P.globalNamed name = some g) (hty : (P.globals[g]?).map (·.type) = some t) (ht : P.underlying t = some (.array n e)) (he : P.underlying e = some (.int k)) (hce : P.cellsOf e = 1) (hct : P.cellsOf t = n) {rest : List (String × DataW Unit)} {ps : List MemPlace}
    (h : DataW.LaidVars P W ((name, Lib.tabData k zs) :: rest) ps) : Lib.TabIs P W name k zs := by
  obtain ⟨g', t', cs, fuel, p, q, hg', ht', hvar, hd, _, _⟩ := h
  obtain rfl := Option.some.inj (hg.symm.trans hg')
  obtain rfl := Option.some.inj (hty.symm.trans ht')
  unfold Lib.TabIs
  rw [hvar, ← Lib.cells_of_tab ht he hce hct hd]
theorem gTens : Tryd.prog.globalNamed "internal/strconv.uint64pow10" = some 1 := by kernel_rfl
theorem tens_of {W : World} (h : laidMetH Tryd.prog Rows.showExprsUptoRow.laid W) : Lib.TabIs Tryd.prog W "internal/strconv.uint64pow10" .u64 Lib.pow10Tab := by
  obtain ⟨ps, ⟨_, _, _, _, _, q1, _, _, _, _, ⟨_, _, _, _, _, q2, _, _, _, _, h3, _⟩, _⟩, _⟩ := h
  exact tabIs_of_vars (zs := Lib.pow10Tab) gTens (by kernel_rfl) Tryd.underlying129 Tryd.underlying104 (by kernel_rfl) (by kernel_rfl) h3
def laidVals : DataW Unit → Array Value
  | .agg l => (l.map fun | .lit (.int k z) => Value.int k z | _ => undef).toArray
  | _ => #[]
def setTab (h : Array Obj) (g : Nat) (d : DataW Unit) : Array Obj := h.modify g fun
  | .cells _ t frozen => .cells (laidVals d) t frozen
  | o => o
noncomputable def laidWorld (os : Os) : World :=
  { World.holding Tryd.prog os ⟨#[], #[], []⟩ with heap := setTab (setTab (setTab (World.holding Tryd.prog os ⟨#[], #[], []⟩).heap 2 Rows.laid_math_bits_deBruijn32tab) 3 Rows.laid_math_bits_deBruijn64tab) 1 Rows.laid_internal_strconv_uint64pow10 }
section
variable {H : Type} {enc : TypeId × Value → H} {w : World} {held : Bool}
end
theorem rv_expr {B : Nat → Value} {W : World} {d : Nat} {cs : Array Value} {x : Expr} (h : RExpr d W (· < W.heap.size) cs.toList x) : RV B W (fun b _ => b < W.heap.size) (.agg (cExpr x)) (.agg cs) :=
  ⟨cs.toList, by simp, (expr_rcs (fun _ _ h => h) d h).2⟩
end Go.Proofs.YtbmbmcdaabhgnaaDoor
end
section
set_option linter.unusedVariables false
set_option linter.unusedSimpArgs false
namespace Go.Proofs.YtbmbmcdaabhgnaaDoor
namespace V
open Go.RowKit Go.Lib
def cBytes (l : List UInt8) : List (List C) := l.map fun b => [C.int .u8 b.toNat]
theorem strRCs {w : World} {I : Nat → Nat → Prop} (s : ByteArray) : RCs w I (strCells s) (flat (cBytes s.data.toList)) := by
  unfold strCells cBytes flat
  generalize s.data.toList = l
  induction l with
  | nil => trivial
  | cons x l ih =>
    simp only [List.map_cons, List.flatten_cons, List.singleton_append]
    exact ⟨.int (by have := x.toNat_lt; simp [Lit.wf, IntKind.min, IntKind.max, IntKind.bits, IntKind.signed]; omega), ih⟩
theorem run_append_str_two {P : Go.Program} (w : World) (t u ty e : TypeId) (i : TypeInfo) (ht : P.underlying t = some (.slice e)) (hu : P.underlying u = some .string) (hi : P.info? e = some i) (hz : i.zero = some (.int .u8 0)) (hsize : i.size = 1) (hby : i.bytes = 1)
    (v : Value) (n : Nat) (xs : List Value) (hown : w.ownsRow 0 e 1 v n xs) (s : ByteArray) (h63 : n + s.size ≤ maxLen) (hbytes : n + s.size ≤ 140737488355328) :
    ∃ v' w', (Builtin.append_ #[t, u] ty #[v, .string s]).run P w = .ok v' w' ∧ w'.ownsRow 0 e 1 v' (n + s.size) (xs ++ strCells s) ∧ w'.os = w.os ∧ w'.tape = w.tape ∧ w'.output = w.output ∧
      ((∃ g, v.ownBlock = some g ∧ v'.ownBlock = some g ∧ w'.heap.size = w.heap.size ∧ ∀ k, k ≠ g → w'.heap[k]? = w.heap[k]?) ∨ (Below w.heap.size w w' ∧ ∀ k, v'.ownBlock = some k → w.heap.size ≤ k) ∨ (v' = v ∧ w' = w)) := by
  have hsmall : n + s.size ≤ 9223372036854775807 := by simp only [maxLen] at h63; omega
  have hxl : xs.length = n := by simpa using hown.1
  have hlen : (xs ++ strCells s).length = (n + s.size) * 1 := by rw [List.length_append, hxl, strCells_length, Nat.mul_one]
  have grown : ∀ (old : Nat), old < n + s.size →
      (w.drew.alloc (.cells (xs.toArray ++ (strCells s).toArray ++ Builtin.zeroCells (Value.int .u8 0).cells (grownCap w (n + s.size) old e - (n + s.size))) e)).ownsRow 0 e 1
        (.slice (some ⟨w.heap.size, 0, none⟩) (n + s.size) (grownCap w (n + s.size) old e)) (n + s.size) (xs ++ strCells s) ∧
      Below w.heap.size w (w.drew.alloc (.cells (xs.toArray ++ (strCells s).toArray ++ Builtin.zeroCells (Value.int .u8 0).cells (grownCap w (n + s.size) old e - (n + s.size))) e)) := by
    intro old ho
    have hge := grownCap_ge w (n + s.size) old e
    have hcm : grownCap w (n + s.size) old e ≤ maxLen := grownCap_le_maxLen w (n + s.size) old e h63
    refine ⟨⟨hlen, .inr ⟨w.heap.size, _, _, rfl, Nat.zero_le _, heap_alloc_new w.drew _, hge, hcm, ?_, ?_⟩⟩, (Below.refl w.heap.size w).drew.alloc (Nat.le_refl _) _⟩
    · have hz1 : (Value.int IntKind.u8 0).cells.size = 1 := rfl
      simp only [Array.size_append, List.size_toArray, size_zeroCells, hz1, hxl, strCells_length]
      omega
    · simp only [Array.toList_append, List.append_assoc]
      rw [← List.append_assoc, ← hlen]
      exact List.take_left
  rcases hown.2 with ⟨rfl, rfl⟩ | ⟨g, cap, cur, rfl, hbg, hg, hnc, hcm, hcs, htake⟩
  · have hx : xs = [] := List.eq_nil_of_length_eq_zero hxl
    subst hx
    by_cases hm : s.size = 0
    · have hn : strCells s = [] := List.eq_nil_of_length_eq_zero (by rw [strCells_length]; exact hm)
      refine ⟨.slice none 0 0, w, ?_, by rw [hm, hn]; exact World.ownsRow_nil w 0 e 1, rfl, rfl, rfl, .inr (.inr ⟨rfl, rfl⟩)⟩
      have hf := run_firstCells_string (P := P) w 1 s
      rw [hm] at hf
      simp [Builtin.append_, run_underlying ht, run_underlying hu, sizeOf, typeInfo, hi, hsize, Builtin.lenOf, hm, hf]
    · have hr := run_append_nil_string (P := P) w t u ty e i (.int .u8 0) ht hu hi hz s (by omega) (by omega) (by rw [hby]; omega)
      have hgr := grown 0 (by omega)
      simp only [Nat.zero_add, List.nil_append, Array.empty_append] at hgr ⊢
      have e1 : (s.data.map fun b => Value.int .u8 b.toNat) = (strCells s).toArray := by
        apply Array.ext'
        simp [strCells]
      rw [e1] at hr
      exact ⟨_, _, hr, hgr.1, rfl, rfl, rfl, .inr (.inl ⟨hgr.2, fun k hk => by simp [Value.ownBlock] at hk; omega⟩)⟩
  · by_cases hroom : n + s.size ≤ cap
    · have hcs' : cur.size = cap := by simpa using hcs
      have hr := run_append_room_string (P := P) w t u ty e i ht hu hi hsize g n cap cur hg s hroom (by omega)
      refine ⟨_, _, hr, ⟨hlen, .inr ⟨g, cap, _, rfl, hbg, setRow_heap w g cur _ e _ hg, hroom, hcm, ?_, ?_⟩⟩, rfl, rfl, rfl, .inl ⟨g, rfl, rfl, by simp, fun k hk => setRow_other w g k _ hk⟩⟩
      · simp only [List.size_toArray, List.length_append, List.length_take, List.length_drop, Array.length_toList, strCells_length]
        omega
      · have ht' : cur.toList.take n = xs := by simpa using htake
        rw [ht', ← hlen]
        exact List.take_left
    · have holds : ∀ j u, xs[j]? = some u → w.cell? ((⟨g, 0, none⟩ : Addr).add j) = some u := hown.cells (g := g) rfl
      have hr := run_append_grow_string (P := P) w t u ty e i (.int .u8 0) ht hu hi hz ⟨g, 0, none⟩ n cap xs (by rw [hsize]; simpa using hxl) holds s (by omega) (by omega) (by rw [hby]; exact growslice_fits (by omega) (by omega))
      have hgr := grown cap (by omega)
      exact ⟨_, _, hr, hgr.1, rfl, rfl, rfl, .inr (.inl ⟨hgr.2, fun k hk => by simp [Value.ownBlock] at hk; omega⟩)⟩
structure HAppendS (T : Tab) (ops : Array Oper) (o : Oper) (st : St) (c : Call) (x y : Operand) (t u d id e : Nat) (xs : List (List C)) (s : ByteArray) : Prop where
  want : wantA ops o st.s = some true
  op : o.op = .call c
  callee : c.callee = .builtin .append
  args : c.args = #[x, y]
  tys : c.argTypes = #[t, u]
  dst : o.dst = some d
  at_ : ev st.s x = .own id
  arr : st.m id = some (.arr e 1 xs)
  val : ev st.s y = .c (.str s)
  elem : T.elem t = some (e, 1)
  str : T.str u = true
  bytes : T.bytes e = some 1
  one : T.one e = some (.int .u8 0)
  small : xs.length + s.size ≤ 140737488355328
section
variable {P : Go.Program} {T : Tab} (hT : T.Ok P) {kp : Nat → Prop} {ops : Array Oper}
include hT
theorem eff_appendS {o : Oper} {st : St} {c : Call} {x y : Operand} {t u d id e : Nat} {xs : List (List C)} {s : ByteArray} (hkp : ¬ kp id) (h : HAppendS T ops o st c x y t u d id e xs s) :
    Eff P T kp ops o st ⟨upd (killS id st.s) d (.own id), upd (killM id st.m) id (some (.arr e 1 (xs ++ cBytes s.data.toList)))⟩ := by
  refine ⟨by rw [h.op]; simp [kind, h.callee], fun hw => ?_, fun R n0 ds a w K Q hR hr hd hK => ?_⟩
  · refine killW hw h.arr (fun i hi => ?_) d _ (fun i hi => ?_)
    · simp [O.ids] at hi
    · simp [A.ids] at hi; subst hi; simp [h.arr]
  · obtain ⟨B, I, hm, hx0, hkp0, hs⟩ := hr.ex
    rw [want_snd hs h.want, if_pos rfl]
    obtain ⟨hu, hn0, i, hi, hin⟩ := hT.elem _ _ _ h.elem
    obtain ⟨i2, hi2, hib⟩ := hT.bytes _ _ h.bytes
    obtain ⟨i3, hi3, hz0, -⟩ := hT.one _ _ h.one
    have e1 : i2 = i := Option.some.inj (hi2.symm.trans hi)
    have e2 : i3 = i := Option.some.inj (hi3.symm.trans hi)
    subst e1 e2
    have hx := ev_rv hs x
    rw [h.at_] at hx
    obtain ⟨hx, -⟩ := hx
    have hy := ev_rv hs y
    rw [h.val] at hy
    have hy : RC w I (a.eval y) (.str s) := hy
    obtain ⟨hyv, -⟩ := hy.toStr
    have hml : (140737488355328 : Nat) ≤ maxLen := by unfold maxLen; decide
    have fin : ∃ v' w' I', (Builtin.append_ #[t, u] o.type #[B id, .string s]).run P w = .ok v' w' ∧ (∃ aa nn cc, v' = .slice aa nn cc) ∧ MR R.w0 R.I0 (upd B id v') I' (upd (killM id st.m) id (some (.arr e 1 (xs ++ cBytes s.data.toList)))) w' ∧ Ext w w' I I' := by
      obtain ⟨vs, hv, hvs, hlx, hiff⟩ := hm.objs id _ h.arr
      obtain ⟨v', w', r1, r2, r3, r4, r5, r6⟩ := run_append_str_two (P := P) w t u o.type e i3 hu (hT.str _ h.str) hi3 hz0 hin hib (B id) xs.length vs hv s (Nat.le_trans h.small hml) h.small
      have hbl : (cBytes s.data.toList).length = s.size := by unfold cBytes; rw [List.length_map, Array.length_toList]; rfl
      rw [← hbl] at r2
      obtain ⟨I', hm', hE⟩ := hm.append h.arr hv hvs hlx hiff r2 (strRCs s) (fun z hz => by obtain ⟨b, -, rfl⟩ := List.mem_map.1 hz; rfl) r3 r4 r5 r6
      refine ⟨v', w', I', r1, ?_, hm', hE⟩
      rcases r2.2 with ⟨q, -⟩ | ⟨g, cap, cur, q, -⟩
      · exact ⟨_, _, _, q⟩
      · exact ⟨_, _, _, q⟩
    obtain ⟨v', w', I', r1, hsh, hm', hE⟩ := fin
    have hrun : (execOp a.eval o).run P w = .ok (.value v') w' := by
      obtain ⟨cal, args, tys⟩ := c
      have h7 := h.callee
      have h8 := h.args
      have h9 := h.tys
      simp only at h7 h8 h9
      subst h7 h8 h9
      simp only [execOp, h.op, resolve, invoke, builtin, Sem.run_bind, Sem.run_pure, Result.andThen_ok, List.map_toArray, List.map_cons, List.map_nil, hx, hyv, r1]
    unfold Oper.wp Oper.upon
    rw [hrun]
    have hdlt : ∀ q, o.dst = some q → q < a.tmps.size := fun q hq => by rw [hr.size]; exact hd q hq
    have hkill : ∀ t', RV (upd B id v') w' I' ((st.s t').kill id) (a.tmps.getD t' undef) := fun t' => by
      rcases (A.kill_ids (id := id) (a := st.s t')).2 with q | ⟨q, hnn⟩
      · rw [q]; trivial
      · rw [q]
        exact (hs t').mono hE fun j hj => upd_ne _ _ (fun e => hnn (e ▸ hj))
    have hput := putS_rv (dst := o.dst) (r := A.own id) (v := v') hkill ⟨(upd_same B id v').symm, hsh⟩ hdlt
    rw [h.dst] at hput
    have hwf : WF ⟨upd (killS id st.s) d (.own id), upd (killM id st.m) id (some (.arr e 1 (xs ++ cBytes s.data.toList)))⟩ := killW hr.wf h.arr (fun i hi => by simp [O.ids] at hi) d _ (fun i hi => by simp [A.ids] at hi; subst hi; simp [h.arr])
    refine hK _ _ ⟨⟨_, I', hm', hx0.trans hE, fun j hj => ?_, by rw [h.dst]; exact hput⟩, hwf.ids, by rw [(put_dst_size _ _ _).1]; exact hr.size, hr.nn, by
      rw [(put_dst_size _ _ _).2]
      have hdd : DID ≠ d := fun q => absurd (hd d h.dst) (Nat.not_lt.2 (q ▸ hr.nn))
      show a.defers = dfs (upd (killS id st.s) d (.own id) DID) ++ ds
      rw [upd_ne _ _ hdd, killS_app, dfs_kill]; exact hr.defs, fun j hj => ?_⟩
    · rw [upd_ne _ _ (fun e => by subst e; rw [hR] at hj; exact hkp hj)]; exact hkp0 j hj
    · have := hr.kept j hj
      show (upd (killM id st.m) id _ j).isSome = true
      unfold upd; split
      · rfl
      · simpa [killM_app] using this
omit hT in
theorem runk_appendS (hT : T.Ok P) {base : Nat} {o : Oper} {l : List Oper} {st : St} {k : St → Prop} {c : Call} {x y : Operand} {t u d : Nat} (id : Nat) {e : Nat} {xs : List (List C)} {s : ByteArray} (h : wantA ops o st.s = some true) (hop : o.op = .call c) (hc : c.callee = .builtin .append) (ha : c.args = #[x, y]) (ht : c.argTypes = #[t, u]) (hd : o.dst = some d)
    (hx : ev st.s x = .own id) (hm : st.m id = some (.arr e 1 xs)) (hy : ev st.s y = .c (.str s)) (h1 : T.elem t = some (e, 1)) (h2 : T.str u = true) (h3 : T.bytes e = some 1) (h4 : T.one e = some (.int .u8 0)) (hkp : ¬ kp id) (hb : xs.length + s.size ≤ 140737488355328)
    (ht2 : RunK P T kp base ops l ⟨upd (killS id st.s) d (.own id), upd (killM id st.m) id (some (.arr e 1 (xs ++ cBytes s.data.toList)))⟩ k) : RunK P T kp base ops (o :: l) st k :=
  runk_step (.eff (eff_appendS hT hkp ⟨h, hop, hc, ha, ht, hd, hx, hm, hy, h1, h2, h3, h4, hb⟩)) ht2
end
end V
end Go.Proofs.YtbmbmcdaabhgnaaDoor
end
section
set_option linter.unusedVariables false
set_option linter.unusedSimpArgs false
namespace Go.Proofs.YtbmbmcdaabhgnaaDoor
open Go.RowKit
set_option maxRecDepth 100000 in
theorem copyCheck_used (b : Nat) (w : World) (h0 : w.cell? ⟨b, 0, none⟩ = some (.pointer (some ⟨b, 0, none⟩))) :
    Calls Tryd.prog 74 #[.pointer (some ⟨b, 0, none⟩)] w fun e w' => e = .returned (.tuple #[]) ∧ w' = w := by
  have hsz : ((Tryd.prog).info? 45).map (·.size) = some 2 := by kernel_rfl
  obtain ⟨j, hj, hjs⟩ := Option.map_eq_some_iff.1 hsz
  go_enter Tryd.func74, Tryd.ntmps74
  go_wp2
  rw [Lib.run_neq_ptr_same w _ Tryd.underlying42 hj]
  go_wp2
  go_end0
  exact ⟨rfl, rfl⟩
set_option maxRecDepth 100000 in
theorem copyCheck_fresh (b : Nat) (w : World) (h0 : w.cell? ⟨b, 0, none⟩ = some (.pointer none)) (hsh : w.shape? b = some (47, 3)) (hfz : w.frozen? ⟨b, 0, none⟩ = false) :
    Calls Tryd.prog 74 #[.pointer (some ⟨b, 0, none⟩)] w fun e w' => e = .returned (.tuple #[]) ∧ w' = w.setCell ⟨b, 0, none⟩ (.pointer (some ⟨b, 0, none⟩)) := by
  have hsz : ((Tryd.prog).info? 45).map (·.size) = some 2 := by kernel_rfl
  obtain ⟨j, hj, hjs⟩ := Option.map_eq_some_iff.1 hsz
  have hlies : liesAt Tryd.prog (Tryd.prog).depth 47 (3 / (Tryd.prog).cellsOf 47) 0 45 1 = true := by kernel_rfl
  go_enter Tryd.func74, Tryd.ntmps74
  go_wp2
  rw [Lib.run_to_unsafe w ⟨b, 0, none⟩ Tryd.underlying42 Tryd.underlying114 hj (by rw [hjs]; decide) hsh (Nat.zero_lt_succ 2)]
  simp only [Result.andThen]
  rw [Oper.upon_value]
  go_wp2
  rw [run_callFunc_extern Tryd.func89 (by kernel_rfl) (by kernel_rfl) (by kernel_rfl) (e := Extern.AbiNoEscape.same) (by kernel_rfl)]
  rw [Lib.run_noEscape]
  simp only [Result.andThen]
  rw [Oper.upon_value]
  go_wp2
  rw [Lib.run_from_unsafe w ⟨b, 0, none⟩ Tryd.underlying114 Tryd.underlying42 hj hsh hlies]
  simp only [Result.andThen]
  rw [Oper.upon_value]
  go_wp2
  go_end0
  exact ⟨rfl, rfl⟩
end Go.Proofs.YtbmbmcdaabhgnaaDoor
end
section
set_option linter.unusedVariables false
set_option linter.unusedSimpArgs false
namespace Go.Proofs.YtbmbmcdaabhgnaaDoor
namespace V
open Go.RowKit
section
variable {w0 w : World} {I0 I : Nat → Nat → Prop} {B : Nat → Value} {m : Mem}
theorem MR.moreI (h : MR w0 I0 B I m w) {N : Nat → Nat → Prop} (hN : ∀ b o, N b o → w0.heap.size ≤ b ∧ b < w.heap.size ∧ ∀ j z, m j = some z → ¬ foot B j z b) : MR w0 I0 B (fun b o => I b o ∨ N b o) m w :=
  ⟨h.below, h.glob, fun b o k => .inl (h.base b o k), fun b o k => k.elim (h.old b o) fun k => .inr (hN b o k).1, fun b o k => k.elim (h.there b o) fun k => (hN b o k).2.1,
    fun j z hz => RO.mono ⟨fun _ _ k => .inl k, fun _ _ _ => rfl⟩ rfl (fun _ _ => rfl) (fun _ _ => rfl) (fun k hk p hp => hp.elim id fun hp => absurd hk ((hN k p hp).2.2 j z hz)) (h.objs j z hz), h.low, h.apart, h.live⟩
theorem MR.freeze (h : MR w0 I0 B I m w) {id : Nat} {ty : TypeId} {e : Nat} {xs : List (List C)} (hid : m id = some (.mrow ty e xs)) :
    ∃ I', MR w0 I0 (upd B id (.slice none 0 0)) I' (upd (killM id m) id (some (.arr ty e []))) w ∧ Ext w w I I' ∧ RC w I' (B id) (.sl xs) := by
  have hob := h.objs id _ hid
  obtain ⟨vs, hrow, hvs, hlx, hnI⟩ := hob
  have hnew : RO (upd B id (.slice none 0 0)) w I id (.arr ty e []) := ⟨[], ⟨by simp, .inl ⟨upd_same .., rfl⟩⟩, trivial, (fun x hx => by cases hx), (fun b hb o => by rw [upd_same] at hb; cases hb)⟩
  have h1 := h.reval (v' := .slice none 0 0) (o' := .arr ty e []) (w' := w) (I' := I) hid rfl rfl rfl (Nat.le_refl _) (fun _ _ _ => rfl) (fun k hk => by
      have hk : (upd B id (.slice none 0 0) id).ownBlock = some k := hk
      rw [upd_same] at hk; cases hk) (Ext.refl _ _) (fun b p k => .inl k)
    hnew (fun i hi => by simp [O.ids] at hi)
  have h2 := h1.moreI (N := fun b o => (B id).ownBlock = some b) (fun b o hb => by
    have hf : foot B id (.mrow ty e xs) b := hb
    refine ⟨(h.low id _ hid b hf).1, (h.low id _ hid b hf).2, fun j z hz hk => ?_⟩
    unfold upd at hz
    split at hz
    · rename_i ej
      cases hz
      subst ej
      have hk : (upd B j (.slice none 0 0) j).ownBlock = some b := hk
      rw [upd_same] at hk; cases hk
    · rename_i ej
      rw [killM_app] at hz
      cases hmj : m j with
      | none => rw [hmj] at hz; cases hz
      | some z0 =>
        rw [hmj] at hz
        cases hz
        exact h.apart j z0 id _ hmj hid ej b ((foot_kill (upd_ne _ _ ej)).1 hk) hf)
  refine ⟨_, h2, ⟨fun _ _ k => .inl k, fun _ _ _ => rfl⟩, ?_⟩
  have hvs' : RCs w (fun b o => I b o ∨ (B id).ownBlock = some b) vs (flat xs) := hvs.mono ⟨fun _ _ k => .inl k, fun _ _ _ => rfl⟩
  obtain ⟨hl, ho⟩ := hrow
  rcases ho with ⟨ev, hn⟩ | ⟨g, off, cap, cur, ev, hcell, q1, q2, q3, q4⟩
  · obtain rfl : xs = [] := List.length_eq_zero_iff.1 hn
    rw [ev]
    exact RC.sl (e := 0) (fun _ _ => undef) rfl (Nat.le_refl _) (Nat.zero_le _) (fun x hx => by cases hx) (fun i x hx => by simp at hx) (fun i j x c hx _ => by simp at hx)
  · have hat : ∀ i j x, xs[i]? = some x → j < e → i * e + j < xs.length * e := fun i j x hx hj => by
      have hi := (List.getElem?_eq_some_iff.1 hx).1
      have : (i + 1) * e ≤ xs.length * e := Nat.mul_le_mul_right _ hi
      rw [Nat.add_mul] at this
      omega
    rw [ev] at hvs' ⊢
    refine RC.sl (e := e) (fun i j => vs.getD (i * e + j) undef) rfl q1 q2 hlx (fun i x hx => ⟨g, off, rfl, fun j hj => ⟨.inr rfl, ?_⟩⟩) (fun i j x c hx hc => ?_)
    · have hlt := hat i j x hx hj
      have hcur : cur[off + (i * e + j)]? = vs[i * e + j]? := by
        rw [← q4, List.getElem?_take, if_pos hlt, List.getElem?_drop, Array.getElem?_toList]
      rw [Nat.add_assoc]
      have hv : vs[i * e + j]? = some (vs.getD (i * e + j) undef) := by
        rw [List.getD_eq_getElem?_getD, List.getElem?_eq_getElem (by omega)]; rfl
      rw [← hv, ← hcur]
      simp [World.cell?, hcell]
    · have hj : j < e := by rw [← hlx x (List.mem_of_getElem? hx)]; exact (List.getElem?_eq_some_iff.1 hc).1
      have hfl := flat_at hlx i j x hx hj
      rw [hc] at hfl
      obtain ⟨u, hu, hr⟩ := hvs'.at _ _ hfl
      rw [List.getD_eq_getElem?_getD, hu]
      exact hr
end
section
variable {P : Go.Program}
theorem W.freeze {R : Ref} {n : Nat} {ds : List Deferred} {st : St} {c : Code} {K : Exit → St → Prop} (t id : Nat) {ty : TypeId} {e : Nat} {xs : List (List C)} (ht : st.s t = .own id) (hid : st.m id = some (.mrow ty e xs)) (hkp : ¬ R.keep id)
    (h : W P R n ds ⟨upd (killS id st.s) t (.c (.sl xs)), upd (killM id st.m) id (some (.arr ty e []))⟩ c K) : W P R n ds st c K := by
  intro a w hr
  refine h a w ?_
  obtain ⟨⟨B, I, hm, hx0, hkp0, hs⟩, h2, h3, hnn, h4, h5⟩ := hr
  obtain ⟨I', hm', hE, hrc⟩ := hm.freeze hid
  have hBne : ∀ j, j ≠ id → upd B id (.slice none 0 0) j = B j := fun j hj => upd_ne _ _ hj
  have liv : ∀ i, (st.m i).isSome = true → (upd (killM id st.m) id (some (.arr ty e [])) i).isSome = true := fun i hi => by
    unfold upd; split
    · rfl
    · rw [killM_app]; simpa using hi
  have hown : RV B w I (.own id) (a.tmps.getD t undef) := ht ▸ hs t
  have hval : a.tmps.getD t undef = B id := hown.1
  refine ⟨⟨_, I', hm', hx0.trans hE, fun j hj => (hBne j (fun e => hkp (e ▸ hj))).trans (hkp0 j hj), fun u => ?_⟩, fun u j hj => ?_, h3, hnn, ?_, fun i hi => liv i (h5 i hi)⟩
  · show RV _ w I' (upd (killS id st.s) t (.c (.sl xs)) u) _
    by_cases hu : u = t
    · subst hu
      rw [upd_same, hval]
      exact hrc
    · rw [upd_ne _ _ hu, killS_app]
      rcases (A.kill_ids (id := id) (a := st.s u)).2 with k | ⟨k, hn⟩
      · rw [k]; trivial
      · rw [k]
        exact (hs u).mono hE fun i hi => hBne i (fun e => hn (e ▸ hi))
  · have hj : j ∈ (upd (killS id st.s) t (.c (.sl xs)) u).ids := hj
    by_cases hu : u = t
    · subst hu; rw [upd_same] at hj; simp [A.ids] at hj
    · rw [upd_ne _ _ hu, killS_app] at hj
      exact liv j (h2 u j ((A.kill_ids (id := id) (a := st.s u)).1 j hj).1)
  · show _ = dfs (upd (killS id st.s) t (.c (.sl xs)) DID) ++ ds
    by_cases e : DID = t
    · rw [← e, upd_same]
      rw [← e] at ht
      rw [ht] at h4
      exact h4
    · rw [upd_ne _ _ e, killS_app, dfs_kill]
      exact h4
end
end V
end Go.Proofs.YtbmbmcdaabhgnaaDoor
end
section
set_option linter.unusedVariables false
set_option linter.unusedSimpArgs false
namespace Go.Proofs.YtbmbmcdaabhgnaaDoor
namespace V
open Go.RowKit
theorem mle_refl' {m m' : Mem} (h : m = m') : MLe m m' := h ▸ mle_refl m
theorem upd_upd {α : Type} (f : Nat → α) (t : Nat) (x y : α) : upd (upd f t x) t y = upd f t y := by
  funext u; unfold upd; split <;> rfl
theorem upd_id {α : Type} (f : Nat → α) {t : Nat} {x : α} (h : f t = x) : upd f t x = f := by
  funext u; unfold upd; split
  · rename_i e; subst e; exact h.symm
  · rfl
theorem mwf_some {M : Mem} {j : Nat} {o : O} (hw : WFm M) (ho : ∀ i ∈ o.ids, (upd M j (some o) i).isSome = true) : WFm (upd M j (some o)) := fun id z hz i hi => by
  unfold upd at hz
  split at hz
  · cases hz; exact ho i hi
  · have := hw id z hz i hi
    unfold upd; split
    · rfl
    · exact this
theorem live_upd {M : Mem} {j : Nat} {o : O} : ∀ i, (M i).isSome = true → (upd M j (some o) i).isSome = true := fun i hi => by
  unfold upd; split
  · rfl
  · exact hi
theorem ren1_id : A1.ren (fun j => j) = id := funext fun a => by cases a <;> rfl
theorem ren_id : A.ren (fun j => j) = id := funext fun a => by cases a <;> simp [A.ren, ren1_id]
theorem renO_id (o : O) : O.ren (fun j => j) o = o := by cases o <;> simp [O.ren, ren1_id, ren_id]
theorem ok_eff {P : Go.Program} {T : Tab} (hT : T.Ok P) {f : FuncId} {fn : Func} {c : Code} {l : List ResultVar} {args : List A} {M : Mem} (D : List Nat) {r : A} {M' : Mem} (hf : P.funcs[f]? = some fn) (hn : (fn.name == "runtime.NumGoroutine") = false) (hb : fn.body = some c) (hl : fn.results.toList = l)
    (hle : decide (args.length ≤ fn.ntmps ∧ fn.ntmps ≤ DID) = true) (hdf : args.all (fun a => !(match a with | .defs _ => true | _ => false)) = true) (hids : ∀ a ∈ args, ∀ j ∈ a.ids, (M j).isSome = true) (hr : ∀ j ∈ r.ids, (M' j).isSome = true) (hsub : ∀ j, (M j).isSome = true → (M' j).isSome = true) (hwm : WFm M → WFm M')
    (hW : WFm M → ∀ R : Ref, R.keep = (fun j => (M j).isSome = true ∧ j ∉ D) → W P R fn.ntmps [] ⟨entry args, M⟩ c (fun e st => (e = .normal ∨ e = .ret) ∧ dfs (st.s DID) = [] ∧ resE T st l = some r ∧ MLe st.m M')) : CallE P f args M D r M' := by
  refine ⟨enters_of hf hn hb, hr, hsub, hwm, ?_⟩
  intro w0 I0 B I w vals hm hv
  have hWF : WFm M := hm.live
  refine (call_eff hT (D := D) hf hb hl (of_decide_eq_true hle).1 (of_decide_eq_true hle).2 hids (fun a ha l e => by have := List.all_eq_true.1 hdf a ha; subst e; simp at this) (enters_of hf hn hb) hr hsub hwm (fun R hR => ?_)).2.2.2.2 w0 I0 B I w vals hm hv
  refine W.mono (hW hWF R hR) fun e st ⟨h1, h2, h3, h4⟩ => ⟨h1, h2, fun j => j, r, h3, ?_⟩
  have hwf' : WFm M' := hwm hWF
  refine ⟨fun t => .inr ?_, fun j o ho => ?_, fun i j _ _ e => e, ⟨fun t j hj => ?_, hwf'⟩, fun j hj => ?_, ?_⟩
  · show (upd (fun _ => A.top) 0 r t).ren (fun j => j) = _
    rw [ren_id]; rfl
  · rw [renO_id]
    rcases h4 j with q | q
    · rw [show (⟨upd (fun _ => A.top) 0 r, M'⟩ : St).m j = M' j from rfl, q] at ho; cases ho
    · exact q.symm.trans ho
  · show (M' j).isSome = true
    have hj : j ∈ (upd (fun _ => A.top) 0 r t).ids := hj
    unfold upd at hj
    split at hj
    · exact hr j hj
    · simp [A.ids] at hj
  · rw [hR] at hj
    exact ⟨rfl, hsub j hj.1⟩
  · show dfs (upd (fun _ => A.top) 0 r DID) = dfs (upd (fun _ => A.top) 0 r DID)
    rfl
end V
end Go.Proofs.YtbmbmcdaabhgnaaDoor
end
section
set_option linter.unusedVariables false
set_option linter.unusedSimpArgs false
namespace Go.Proofs.YtbmbmcdaabhgnaaDoor
namespace V
open Go.RowKit
def adrB (u : Bool) (j : Nat) : A := if u = true then .ptr j 0 else .nilv (.pointer none)
def pageB (u : Bool) (j q : Nat) (t : Int) : O := .box 47 [adrB u j, .own q, .c (.int .i64 t)]
theorem copyCheck_ok {M : Mem} {j q : Nat} {t : Int} (u : Bool) (hj : M j = some (pageB u j q t)) (hq : (M q).isSome = true) : CallE Tryd.prog 74 [.ptr j 0] M [] (.tup []) (upd M j (some (pageB true j q t))) := by
  have hjs : (M j).isSome = true := by rw [hj]; rfl
  have hids : ∀ i ∈ (pageB true j q t).ids, (M i).isSome = true := fun i hi => by
    simp [pageB, adrB, O.ids, A.ids] at hi
    rcases hi with rfl | rfl
    · exact hjs
    · exact hq
  refine ⟨enters_of Tryd.func74 (by kernel_rfl) rfl, fun i hi => by simp [A.ids] at hi, fun i hi => live_upd i hi, fun hw => mwf_some hw (fun i hi => live_upd i (hids i hi)), ?_⟩
  intro w0 I0 B I w vals hm hv
  match vals, hv with
  | [v], ⟨h1, _⟩ =>
    obtain ⟨b, vs, hB, hh, hvs, hno⟩ := hm.objs j _ hj
    obtain ⟨b', hB', rfl⟩ := h1
    obtain rfl : b = b' := by rw [hB] at hB'; cases hB'; rfl
    match vs, hvs with
    | [x0, x1, x2], ⟨⟨h0, c0⟩, ⟨hx1, c1⟩, ⟨hx2, c2⟩, _⟩ =>
      cases u with
      | true =>
        obtain ⟨b2, hB2, hx0⟩ := h0
        obtain rfl : b = b2 := by rw [hB] at hB2; cases hB2; rfl
        subst hx0
        refine (copyCheck_used b w (by simp [World.cell?, hh])).mono ?_
        rintro e w' ⟨rfl, rfl⟩
        exact ⟨_, B, I, rfl, by rw [upd_id M hj]; exact hm, Ext.refl _ _, fun _ _ _ => rfl, [], rfl, trivial⟩
      | false =>
        have h0 : x0 = .pointer none := h0
        subst h0
        refine (copyCheck_fresh b w (by simp [World.cell?, hh]) (by simp [World.shape?, hh]) (by simp [World.frozen?, hh])).mono ?_
        rintro e w' ⟨rfl, rfl⟩
        have hset : (w.setCell ⟨b, 0, none⟩ (.pointer (some ⟨b, 0, none⟩))).heap[b]? = some (.cells ([.pointer (some ⟨b, 0, none⟩), x1, x2] : List Value).toArray 47) := by
          simp only [World.setCell, Array.getElem?_modify, if_true, hh]
          rfl
        have ht := hm.turn (w' := w.setCell ⟨b, 0, none⟩ (.pointer (some ⟨b, 0, none⟩))) (j := j) (b := b) (o' := pageB true j q t) hj ⟨0, hB⟩ (fun k hk => by
          obtain ⟨off, hk⟩ := hk
          rw [hB] at hk; cases hk; rfl) hno rfl rfl rfl (by simp [World.setCell]) (fun k hk => Below.heap_setCell w ⟨b, 0, none⟩ _ k hk) hids (fun hE => ⟨b, [.pointer (some ⟨b, 0, none⟩), x1, x2], hB, hset, ⟨⟨⟨b, hB, rfl⟩, rfl⟩, ⟨hx1.mono hE (fun _ _ => rfl), c1⟩, ⟨hx2.mono hE (fun _ _ => rfl), c2⟩, trivial⟩, hno⟩)
        exact ⟨_, B, I, rfl, ht.1, ht.2, fun _ _ _ => rfl, [], rfl, trivial⟩
end V
end Go.Proofs.YtbmbmcdaabhgnaaDoor
end
section
set_option linter.unusedVariables false
set_option linter.unusedSimpArgs false
namespace Go.Proofs.YtbmbmcdaabhgnaaDoor
namespace V
open Go.RowKit
def textB (bs : List UInt8) : O := .arr 5 1 (cBytes bs)
def pgM (M : Mem) (j q : Nat) (u : Bool) (t : Int) (bs : List UInt8) : Mem := upd (upd M j (some (pageB u j q t))) q (some (textB bs))
structure PgAt (M : Mem) (j q : Nat) (u : Bool) (t : Int) (bs : List UInt8) : Prop where
  box : M j = some (pageB u j q t)
  row : M q = some (textB bs)
  ne : j ≠ q
  only : ∀ i o, M i = some o → i ≠ j → O.kill q o = o
theorem PgAt.pgM {M : Mem} {j q : Nat} {u u' : Bool} {t t' : Int} {bs bs' : List UInt8} (h : PgAt M j q u t bs) : PgAt (pgM M j q u' t' bs') j q u' t' bs' where
  box := by unfold V.pgM; rw [upd_ne _ _ h.ne, upd_same]
  row := by unfold V.pgM; rw [upd_same]
  ne := h.ne
  only := fun i o ho hi => by
    unfold V.pgM at ho
    by_cases e : i = q
    · subst e; rw [upd_same] at ho; cases ho; rfl
    · rw [upd_ne _ _ e, upd_ne _ _ hi] at ho; exact h.only i o ho hi
theorem pgM_same {M : Mem} {j q : Nat} {u : Bool} {t : Int} {bs : List UInt8} (h : PgAt M j q u t bs) : pgM M j q u t bs = M := by
  unfold pgM
  rw [upd_id M h.box, upd_id M h.row]
theorem pgM_pgM {M : Mem} {j q : Nat} {u u' : Bool} {t t' : Int} {bs bs' : List UInt8} (h : j ≠ q) : pgM (pgM M j q u t bs) j q u' t' bs' = pgM M j q u' t' bs' := by
  funext i
  unfold pgM upd
  by_cases e1 : i = q
  · simp [e1]
  · by_cases e2 : i = j <;> simp [e1, e2]
theorem pgM_live {M : Mem} {j q : Nat} {u : Bool} {t : Int} {bs : List UInt8} : ∀ i, (M i).isSome = true → (pgM M j q u t bs i).isSome = true := fun i hi => live_upd i (live_upd i hi)
theorem pgM_wf {M : Mem} {j q : Nat} {u u' : Bool} {t t' : Int} {bs bs' : List UInt8} (h : PgAt M j q u t bs) (hw : WFm M) : WFm (pgM M j q u' t' bs') := by
  have hjs : (M j).isSome = true := by rw [h.box]; rfl
  have hqs : (M q).isSome = true := by rw [h.row]; rfl
  refine mwf_some (mwf_some hw (fun i hi => live_upd i ?_)) (fun i hi => by simp [textB, O.ids] at hi)
  unfold pageB adrB at hi
  cases u' <;> simp [O.ids, A.ids] at hi
  · subst hi; exact hqs
  · rcases hi with rfl | rfl
    · exact hjs
    · exact hqs
theorem writeS_ok {M : Mem} {j q : Nat} {u : Bool} {t : Int} {bs : List UInt8} (h : PgAt M j q u t bs) (s : ByteArray) (hs : bs.length + s.size ≤ 140737488355328) : CallE Tryd.prog 48 [.ptr j 0, .c (.str s)] M [q] (.tupA [.c (.int .i64 s.size), .nilv .nilIface]) (pgM M j q true t (bs ++ s.data.toList)) := by
  have hjs : (M j).isSome = true := by rw [h.box]; rfl
  have hqs : (M q).isSome = true := by rw [h.row]; rfl
  have jq : (j = q) = False := eq_false h.ne
  have qj : (q = j) = False := eq_false (Ne.symm h.ne)
  have hq := h.row
  have hcb : (cBytes bs).length = bs.length := by unfold cBytes; rw [List.length_map]
  refine (ok_eff tab_ok [q] Tryd.func48 (by kernel_rfl) rfl rfl (by rfl) (by rfl) ?ids ?res ?sub ?wfm (fun hWF Rr hkeep => ?_))
  case ids => intro a ha i hi; simp at ha; rcases ha with rfl | rfl <;> simp [A.ids] at hi; subst hi; exact hjs
  case res => intro i hi; simp [A.ids, A1.ids] at hi
  case sub => exact pgM_live
  case wfm => exact pgM_wf h
  have nkq : ¬ Rr.keep q := by rw [hkeep]; intro hh; exact hh.2 (by simp)
  repeat (first | refine W.seq ?_ | refine W.block ?_ | refine W.skip ?_ | refine W.exit ?_ | refine W.region tab_ok 0 (by decide) (exec_run (by simp only [exa, beq_self_eq_true, ByteArray.size, Nat.reduceAdd, Nat.reduceLeDiff, Nat.reduceEqDiff, Nat.reduceMul, Int.reduceToNat, reduceIte, Int.reduceLE, Int.reduceNeg]; rfl)) ?_)
  (repeat (first | refine W.seq ?_ | refine W.block ?_ | refine W.skip ?_))
  refine W.regionK tab_ok 0 (by decide) ?_
  refine runk_split 1 (by simp only [exa, beq_self_eq_true, ByteArray.size, Nat.reduceAdd, Nat.reduceLeDiff, Nat.reduceEqDiff, Nat.reduceMul, Int.reduceToNat, reduceIte, Int.reduceLE, Int.reduceNeg]; rfl) ?_
  refine runk_callE (D := []) rfl rfl rfl rfl rfl (fun j hj => by simp at hj) (by simp) (cvs_cons cv_refl cvs_nil) (copyCheck_ok u h.box hqs) ?_
  simp only [killL, putS, upd_upd]
  refine runk_exec (by simp only [exa, beq_self_eq_true, ByteArray.size, Nat.reduceAdd, Nat.reduceLeDiff, Nat.reduceEqDiff, Nat.reduceMul, Int.reduceToNat, reduceIte, Int.reduceLE, Int.reduceNeg]; rfl) ?_
  (repeat (first | refine W.seq ?_ | refine W.block ?_ | refine W.skip ?_))
  refine W.regionK tab_ok 0 (by decide) ?_
  refine runk_split 6 (by simp only [exa, beq_self_eq_true, ByteArray.size, Nat.reduceAdd, Nat.reduceLeDiff, Nat.reduceEqDiff, Nat.reduceMul, Int.reduceToNat, reduceIte, Int.reduceLE, Int.reduceNeg, pageB, adrB, upd_same, jq, qj, hq, textB]; rfl) ?_
  refine runk_appendS tab_ok q rfl rfl rfl rfl rfl rfl (by simp only [exa, beq_self_eq_true, ByteArray.size, Nat.reduceAdd, Nat.reduceLeDiff, Nat.reduceEqDiff, Nat.reduceMul, Int.reduceToNat, reduceIte, Int.reduceLE, Int.reduceNeg]) (by simp only [exa, beq_self_eq_true, ByteArray.size, Nat.reduceAdd, Nat.reduceLeDiff, Nat.reduceEqDiff, Nat.reduceMul, Int.reduceToNat, reduceIte, Int.reduceLE, Int.reduceNeg, pageB, adrB, upd_same, jq, qj, hq, textB]; rfl) (by simp only [exa, beq_self_eq_true, ByteArray.size, Nat.reduceAdd, Nat.reduceLeDiff, Nat.reduceEqDiff, Nat.reduceMul, Int.reduceToNat, reduceIte, Int.reduceLE, Int.reduceNeg]; rfl) rfl rfl rfl rfl nkq (by rw [hcb]; exact hs) ?_
  refine runk_exec (by simp only [exa, beq_self_eq_true, ByteArray.size, Nat.reduceAdd, Nat.reduceLeDiff, Nat.reduceEqDiff, Nat.reduceMul, Int.reduceToNat, reduceIte, Int.reduceLE, Int.reduceNeg, killM_app, killS_app, A.kill, O.kill, pageB, adrB, upd_same, jq, qj, hq, textB, List.map_cons, List.map_nil, Option.map_some]; rfl) ?_
  (repeat (first | refine W.seq ?_ | refine W.block ?_ | refine W.skip ?_))
  refine W.regionK tab_ok 0 (by decide) ?_
  refine runk_exec (by simp only [exa, beq_self_eq_true, ByteArray.size, Nat.reduceAdd, Nat.reduceLeDiff, Nat.reduceEqDiff, Nat.reduceMul, Int.reduceToNat, reduceIte, Int.reduceLE, Int.reduceNeg]; rfl) ?_
  (repeat (first | refine W.seq ?_ | refine W.block ?_ | refine W.skip ?_))
  refine W.ret ⟨.inr rfl, by rfl, ?_, ?mle⟩
  simp only [Tryd.f48, resE, resOne, fin, toT, exa, beq_self_eq_true, ByteArray.size, Nat.reduceAdd, Nat.reduceLeDiff, Nat.reduceEqDiff, Nat.reduceMul, Int.reduceToNat, reduceIte, Int.reduceLE, Int.reduceNeg]
  case mle =>
    intro i
    have hbx := h.box
    by_cases e1 : i = q
    · subst e1; right; simp [upd_app, pgM, textB, cBytes, qj]
    by_cases e2 : i = j
    · subst e2; right; simp [upd_app, pgM, pageB, adrB, jq, A.kill]
    cases ho : M i with
    | none => left; simp [upd_app, pgM, e1, e2, ho]
    | some o => right; simp [upd_app, pgM, e1, e2, killM_app, ho, h.only i o ho e2]
end V
end Go.Proofs.YtbmbmcdaabhgnaaDoor
end
section
set_option linter.unusedVariables false
set_option linter.unusedSimpArgs false
namespace Go.Proofs.YtbmbmcdaabhgnaaDoor
namespace V
open Go.RowKit
theorem mle_mr {w0 w : World} {I0 I : Nat → Nat → Prop} {B : Nat → Value} {m M' : Mem} (hm : MR w0 I0 B I m w) (hle : MLe m M') (hw : WFm M') : MR w0 I0 B I M' w := by
  have hsome : ∀ j o, M' j = some o → m j = some o := fun j o ho => by
    rcases hle j with q | q
    · rw [q] at ho; cases ho
    · exact q.symm.trans ho
  exact ⟨hm.below, hm.glob, hm.base, hm.old, hm.there, fun j o ho => hm.objs j o (hsome j o ho), fun j o ho => hm.low j o (hsome j o ho), fun j o j' o' ho ho' => hm.apart j o j' o' (hsome j o ho) (hsome j' o' ho'), fun j o ho i hi => hw j o ho i hi⟩
def CallDf (P : Go.Program) (f : FuncId) (args : List A) (M : Mem) (D : List Nat) (M' : Mem) : Prop :=
  (∀ args w, (callFunc f args).run P w = .ok (.enter f args) w) ∧ (∀ j, (M j).isSome = true → (M' j).isSome = true) ∧ (WFm M → WFm M') ∧
  ∀ (w0 : World) (I0 : Nat → Nat → Prop) (B : Nat → Value) (I : Nat → Nat → Prop) (w : World) (vals : List Value) (u : FrameMode), MR w0 I0 B I M w → RVl B w I args vals →
    CallsD P f vals.toArray u w fun e u' w' => u' = u ∧ ∃ v B' I', e = .returned v ∧ MR w0 I0 B' I' M' w' ∧ Ext w w' I I' ∧ ∀ j, (M j).isSome = true → j ∉ D → B' j = B j
theorem ok_effDf {P : Go.Program} {T : Tab} (hT : T.Ok P) {f : FuncId} {fn : Func} {c : Code} {l : List ResultVar} {args : List A} {M : Mem} (D : List Nat) {r : A} {M' : Mem} (hf : P.funcs[f]? = some fn) (hn : (fn.name == "runtime.NumGoroutine") = false) (hb : fn.body = some c) (hl : fn.results.toList = l)
    (hle : decide (args.length ≤ fn.ntmps ∧ fn.ntmps ≤ DID) = true) (hdf : args.all (fun a => !(match a with | .defs _ => true | _ => false)) = true) (hids : ∀ a ∈ args, ∀ j ∈ a.ids, (M j).isSome = true) (hsub : ∀ j, (M j).isSome = true → (M' j).isSome = true) (hwm : WFm M → WFm M')
    (hW : WFm M → ∀ R : Ref, R.keep = (fun j => (M j).isSome = true ∧ j ∉ D) → W P R fn.ntmps [] ⟨entry args, M⟩ c (fun e st => (e = .normal ∨ e = .ret) ∧ dfs (st.s DID) = [] ∧ resE T st l = some r ∧ MLe st.m M')) : CallDf P f args M D M' := by
  refine ⟨enters_of hf hn hb, hsub, hwm, ?_⟩
  intro w0 I0 B I w vals u hm hv
  have hWF : WFm M := hm.live
  have hd2 : ∀ a ∈ args, ∀ l, a ≠ .defs l := fun a ha l e => by have := List.all_eq_true.1 hdf a ha; subst e; simp at this
  obtain ⟨hl1, hl2⟩ := of_decide_eq_true hle
  have hlen := rvl_len hv
  refine callsD_of_wp (R := fun e w' => ∃ v B' I', e = .returned v ∧ MR w0 I0 B' I' M' w' ∧ Ext w w' I I' ∧ ∀ j, (M j).isSome = true → j ∉ D → B' j = B j) hf hb ?_
  have h0 : SR ⟨w0, I0, w, I, B, fun j => (M j).isSome = true ∧ j ∉ D⟩ fn.ntmps [] ⟨entry args, M⟩ { tmps := vals.toArray ++ Array.replicate (fn.ntmps - vals.toArray.size) undef, defers := [] } w := by
    refine ⟨⟨B, I, hm, Ext.refl _ _, fun _ _ => rfl, rvl_entry hv⟩, fun t i hi => ?_, by simp [hlen]; omega, hl2, by rw [show dfs ((⟨entry args, M⟩ : St).s DID) = [] from entry_dfs (fun a ha l e => by subst e; exact hd2 _ ha l rfl)]; rfl, fun i hi => hi.1⟩
    simp only [entry, List.getD_eq_getElem?_getD] at hi
    cases hx : args[t]? with
    | none => rw [hx] at hi; simp [A.ids] at hi
    | some a => rw [hx] at hi; exact hids a (List.mem_of_getElem? hx) i hi
  refine wp_mono (hW hWF _ rfl _ w h0) ?_
  rintro e a' w' ⟨st', ⟨he, hdn, hres, hle2⟩, ⟨⟨B', I', hm', hx', hkp', hs'⟩, -, -, -, hds, -⟩⟩
  rw [hdn] at hds
  obtain ⟨v, h1, h2⟩ := resE_snd hT hm' hs' hl hres
  have key : a'.defers = [] ∧ ∃ v, (results fn a'.tmps).run P w' = .ok v w' ∧ ∃ v' B' I', Ending.returned v = .returned v' ∧ MR w0 I0 B' I' M' w' ∧ Ext w w' I I' ∧ ∀ j, (M j).isSome = true → j ∉ D → B' j = B j :=
    ⟨hds, v, h1, v, B', I', rfl, mle_mr hm' hle2 (hwm hWF), hx', fun j hj hd => hkp' j ⟨hj, hd⟩⟩
  rcases he with rfl | rfl
  · exact key
  · exact key
end V
end Go.Proofs.YtbmbmcdaabhgnaaDoor
end
section
namespace Go.Proofs.YtbmbmcdaabhgnaaDoor
namespace V
open Go.RowKit
set_option linter.unusedSimpArgs false
def cStr (s : ByteArray) : List C := [.str s]
end V
end Go.Proofs.YtbmbmcdaabhgnaaDoor
end
section
set_option linter.unusedVariables false
set_option linter.unusedSimpArgs false
namespace Go.Proofs.YtbmbmcdaabhgnaaDoor
namespace V
open Go.RowKit
def txtB (l : List ByteArray) : List UInt8 := l.flatMap fun s => s.data.toList
theorem txtB_snoc (l : List ByteArray) (s : ByteArray) : txtB (l ++ [s]) = txtB l ++ s.data.toList := by simp [txtB]
theorem txtB_le (l : List ByteArray) (k : Nat) : (txtB (l.take k)).length ≤ (txtB l).length := by
  have : txtB l = txtB (l.take k) ++ txtB (l.drop k) := by unfold txtB; rw [← List.flatMap_append, List.take_append_drop]
  rw [this, List.length_append]; omega
def layU (u : Bool) (l : List ByteArray) : Bool := u || !l.isEmpty
theorem layU_take (u : Bool) {l : List ByteArray} {k : Nat} {s : ByteArray} (h : l[k]? = some s) : layU u (l.take (k + 1)) = true := by
  rw [List.take_add_one, h]; simp [layU]
set_option maxHeartbeats 1000000 in
theorem lay_W {M : Mem} {j q : Nat} {u : Bool} {t : Int} {bs : List UInt8} (h : PgAt M j q u t bs) (l : List ByteArray) (hl : l.length ≤ 1000000000) (hs : bs.length + (txtB l).length ≤ 140737488355328) {c : Code} (hc : (Tryd.f23).body = some c) (hWF : WFm M) (Rr : Ref) (hkeep : Rr.keep = (fun i => (M i).isSome = true ∧ i ∉ [q])) :
    W Tryd.prog Rr (Tryd.f23).ntmps [] ⟨entry [.ptr j 0, .c (.sl (l.map cStr))], M⟩ c (fun e st => (e = .normal ∨ e = .ret) ∧ dfs (st.s DID) = [] ∧ resE tab st (Tryd.f23).results.toList = some (.tup []) ∧ MLe st.m (pgM M j q (layU u l) t (bs ++ txtB l))) := by
  obtain rfl : _ = c := Option.some.inj hc
  have hjs : (M j).isSome = true := by rw [h.box]; rfl
  have nkq : ¬ Rr.keep q := by rw [hkeep]; intro hh; exact hh.2 (by simp)
  have kept : ∀ i, Rr.keep i → (M i).isSome = true := fun i hi => by rw [hkeep] at hi; exact hi.1
  repeat (first | refine W.seq ?_ | refine W.block ?_ | refine W.skip ?_ | refine W.exit ?_ | refine W.region tab_ok 0 (by decide) (exec_run (by simp only [exa, beq_self_eq_true, ByteArray.size, Nat.reduceAdd, Nat.reduceLeDiff, Nat.reduceEqDiff, Nat.reduceMul, Int.reduceToNat, reduceIte, Int.reduceLE, Int.reduceNeg]; rfl)) ?_)
  refine W.loop (ι := Nat) (fun k => ⟨upd (upd (upd (upd (fun _ => .top) 0 (.ptr j 0)) 6 (.c (.sl (l.map cStr)))) 7 (.c (.int .i64 l.length))) 8 (.c (.int .i64 k)), pgM M j q (layU u (l.take k)) t (bs ++ txtB (l.take k))⟩) (fun k => k ≤ l.length) (fun k => l.length - k) 0 ?start (Nat.zero_le _) ?round
  case start =>
    refine le_mk ?sle ?mle ?swf ?mwf (fun i hi => pgM_live i (kept i hi)) (by rfl)
    case swf => repeat (first | exact swf_top _ | refine swf_upd ?_ (by intro i hi; simp [A.ids] at hi; first | (subst hi; exact pgM_live _ hjs) | done))
    case mwf => exact pgM_wf h hWF
    case mle =>
      have e : pgM M j q (layU u (l.take 0)) t (bs ++ txtB (l.take 0)) = M := by
        have : layU u (l.take 0) = u := by simp [layU]
        rw [this]; simp only [List.take_zero, txtB, List.flatMap_nil, List.append_nil]; exact pgM_same h
      exact mle_refl' e.symm
    case sle => repeat (first | exact sle_top _ | exact sle_refl _ | refine sle_upd ?_ (by first | rfl | (simp only [upd_app, killS_app, A.kill, entry_zero, entry_succ, Nat.reduceEqDiff, reduceIte, List.length_map]; done)))
  case round =>
    intro k hk
    repeat (first | refine W.seq ?_ | refine W.block ?_ | refine W.skip ?_ | refine W.exit ?_ | refine W.region tab_ok 0 (by decide) (exec_run (by simp only [exa, beq_self_eq_true, ByteArray.size, Nat.reduceAdd, Nat.reduceLeDiff, Nat.reduceEqDiff, Nat.reduceMul, Int.reduceToNat, reduceIte, Int.reduceLE, Int.reduceNeg]; rfl)) ?_)
    refine W.cond rfl ?_ ?_
    · intro hlt
      simp only [decide_eq_true_eq, Int.ofNat_lt] at hlt
      obtain ⟨s, hx⟩ : ∃ s, l[k]? = some s := ⟨_, List.getElem?_eq_getElem hlt⟩
      have htk : txtB (l.take (k + 1)) = txtB (l.take k) ++ s.data.toList := by rw [List.take_add_one, hx]; exact txtB_snoc _ _
      have hle := txtB_le l (k + 1)
      rw [htk, List.length_append] at hle
      have hsz : s.data.toList.length = s.size := by rw [Array.length_toList]; rfl
      have hw := writeS_ok (h.pgM (u' := layU u (l.take k)) (t' := t) (bs' := bs ++ txtB (l.take k))) s (by rw [List.length_append]; omega)
      rw [pgM_pgM h.ne, List.append_assoc, ← htk] at hw
      have hu := layU_take u hx
      repeat (first | refine W.seq ?_ | refine W.block ?_ | refine W.skip ?_ | refine W.exit ?_ | refine W.region tab_ok 0 (by decide) (exec_run (by simp only [exa, beq_self_eq_true, ByteArray.size, Nat.reduceAdd, Nat.reduceLeDiff, Nat.reduceEqDiff, Nat.reduceMul, Int.reduceToNat, reduceIte, Int.reduceLE, Int.reduceNeg, at_map hx, cStr]; rfl)) ?_)
      (repeat (first | refine W.seq ?_ | refine W.block ?_ | refine W.skip ?_))
      refine W.regionK tab_ok 0 (by decide) ?_
      refine runk_split 4 (by simp only [exa, beq_self_eq_true, ByteArray.size, Nat.reduceAdd, Nat.reduceLeDiff, Nat.reduceEqDiff, Nat.reduceMul, Int.reduceToNat, reduceIte, Int.reduceLE, Int.reduceNeg]; rfl) ?_
      refine runk_callE (D := [q]) rfl rfl rfl rfl rfl (fun i hi => by simp at hi; subst hi; exact nkq) (by simp) (cvs_cons cv_refl (cvs_cons cv_refl cvs_nil)) hw ?_
      simp only [killL, putS]
      refine runk_exec (by simp only [exa, beq_self_eq_true, ByteArray.size, Nat.reduceAdd, Nat.reduceLeDiff, Nat.reduceEqDiff, Nat.reduceMul, Int.reduceToNat, reduceIte, Int.reduceLE, Int.reduceNeg]; rfl) ?_
      repeat (first | refine W.seq ?_ | refine W.block ?_ | refine W.skip ?_ | refine W.exit ?_ | refine W.region tab_ok 0 (by decide) (exec_run (by simp only [exa, beq_self_eq_true, ByteArray.size, Nat.reduceAdd, Nat.reduceLeDiff, Nat.reduceEqDiff, Nat.reduceMul, Int.reduceToNat, reduceIte, Int.reduceLE, Int.reduceNeg]; rfl)) ?_)
      refine ⟨k + 1, hlt, by omega, ?_⟩
      rw [hu]
      refine le_mk ?sle ?mle ?swf ?mwf (fun i hi => pgM_live i (kept i hi)) (by rfl)
      case swf => repeat (first | exact swf_top _ | refine swf_upd ?_ (by intro i hi; simp [A.ids] at hi; first | (subst hi; exact pgM_live _ hjs) | done))
      case mwf => exact pgM_wf h hWF
      case mle => exact mle_refl _
      case sle => repeat (first | exact sle_top _ | exact sle_refl _ | refine sle_upd ?_ (by first | rfl | (simp only [upd_app, killS_app, A.kill, entry_zero, entry_succ, Nat.reduceEqDiff, reduceIte, h.ne, if_false, wrap_succ (show k + 1 < 9223372036854775808 by omega)]; done)))
    · intro hge
      simp only [decide_eq_false_iff_not, Int.ofNat_lt] at hge
      obtain rfl : k = l.length := by omega
      rw [List.take_length]
      repeat (first | refine W.seq ?_ | refine W.block ?_ | refine W.skip ?_ | refine W.exit ?_ | refine W.region tab_ok 0 (by decide) (exec_run (by simp only [exa, beq_self_eq_true, ByteArray.size, Nat.reduceAdd, Nat.reduceLeDiff, Nat.reduceEqDiff, Nat.reduceMul, Int.reduceToNat, reduceIte, Int.reduceLE, Int.reduceNeg]; rfl)) ?_)
      exact ⟨.inl rfl, by rfl, by rfl, mle_refl _⟩
theorem lay_ok {M : Mem} {j q : Nat} {u : Bool} {t : Int} {bs : List UInt8} (h : PgAt M j q u t bs) (l : List ByteArray) (hl : l.length ≤ 1000000000) (hs : bs.length + (txtB l).length ≤ 140737488355328) :
    CallE Tryd.prog 23 [.ptr j 0, .c (.sl (l.map cStr))] M [q] (.tup []) (pgM M j q (layU u l) t (bs ++ txtB l)) := by
  have hjs : (M j).isSome = true := by rw [h.box]; rfl
  refine (ok_eff tab_ok [q] Tryd.func23 (by kernel_rfl) rfl rfl (by rfl) (by rfl) ?ids ?res pgM_live (pgM_wf h) (fun hWF Rr hkeep => lay_W h l hl hs rfl hWF Rr hkeep))
  case ids => intro a ha i hi; simp at ha; rcases ha with rfl | rfl <;> simp [A.ids] at hi; subst hi; exact hjs
  case res => intro i hi; simp [A.ids] at hi
theorem lay_df {M : Mem} {j q : Nat} {u : Bool} {t : Int} {bs : List UInt8} (h : PgAt M j q u t bs) (l : List ByteArray) (hl : l.length ≤ 1000000000) (hs : bs.length + (txtB l).length ≤ 140737488355328) :
    CallDf Tryd.prog 23 [.ptr j 0, .c (.sl (l.map cStr))] M [q] (pgM M j q (layU u l) t (bs ++ txtB l)) := by
  have hjs : (M j).isSome = true := by rw [h.box]; rfl
  refine (ok_effDf tab_ok [q] Tryd.func23 (by kernel_rfl) rfl rfl (by rfl) (by rfl) ?ids pgM_live (pgM_wf h) (fun hWF Rr hkeep => lay_W h l hl hs rfl hWF Rr hkeep))
  case ids => intro a ha i hi; simp at ha; rcases ha with rfl | rfl <;> simp [A.ids] at hi; subst hi; exact hjs
end V
end Go.Proofs.YtbmbmcdaabhgnaaDoor
end
section
set_option linter.unusedVariables false
set_option linter.unusedSimpArgs false
namespace Go.Proofs.YtbmbmcdaabhgnaaDoor
namespace V
open Go.RowKit
def ExprAt (x : Expr) : Prop := ∀ (M : Mem) (j q : Nat) (u : Bool) (t : Int) (bs : List UInt8) (b : Nat) (want : Int), PgAt M j q u t bs → (∀ d, M (b + d) = none) → bs.length + (exprX x want).length ≤ 140737488355328 →
  CallE Tryd.prog 16 [.ptr j 0, .agg (cExpr x), .c (.int .i64 want)] M [q] (.tup []) (pgM M j q true t (bs ++ exprX x want))
theorem PgAt.new {M : Mem} {j q i : Nat} {u : Bool} {t : Int} {bs : List UInt8} {o : O} (h : PgAt M j q u t bs) (hi : M i = none) (ho : O.kill q o = o) : PgAt (upd M i (some o)) j q u t bs := by
  have hj : j ≠ i := fun e => by have := h.box; rw [e, hi] at this; cases this
  have hq : q ≠ i := fun e => by have := h.row; rw [e, hi] at this; cases this
  refine ⟨by rw [upd_ne _ _ hj]; exact h.box, by rw [upd_ne _ _ hq]; exact h.row, h.ne, fun k o' hk hkj => ?_⟩
  by_cases e : k = i
  · subst e; rw [upd_same] at hk; cases hk; exact ho
  · rw [upd_ne _ _ e] at hk; exact h.only k o' hk hkj
theorem pgM_upd {M : Mem} {j q i : Nat} {u : Bool} {t : Int} {bs : List UInt8} {o : Option O} (hj : j ≠ i) (hq : q ≠ i) : pgM (upd M i o) j q u t bs = upd (pgM M j q u t bs) i o := by
  funext k
  unfold pgM upd
  by_cases e1 : k = q
  · subst e1; simp [hq]
  · by_cases e2 : k = j
    · subst e2; simp [hj, e1]
    · simp [e1, e2]
theorem pgM_none {M : Mem} {j q i : Nat} {u u' : Bool} {t t' : Int} {bs bs' : List UInt8} (h : PgAt M j q u t bs) (hi : M i = none) : pgM M j q u' t' bs' i = none := by
  have hj : i ≠ j := fun e => by have := h.box; rw [← e, hi] at this; cases this
  have hq : i ≠ q := fun e => by have := h.row; rw [← e, hi] at this; cases this
  unfold pgM
  rw [upd_ne _ _ hq, upd_ne _ _ hj, hi]
theorem mle_off {m : Mem} {i : Nat} {o : O} (hi : m i = none) : MLe (upd m i (some o)) m := fun k => by
  by_cases e : k = i
  · subst e; exact .inl hi
  · exact .inr (upd_ne _ _ e).symm
theorem mle_eq {m a b : Mem} (e : b = a) (h : MLe m a) : MLe m b := e ▸ h
set_option maxHeartbeats 2000000 in
theorem list_ok {M : Mem} {j q b : Nat} {u : Bool} {t : Int} {bs : List UInt8} (h : PgAt M j q u t bs) (hM : ∀ d, M (b + d) = none) (l : List Expr) (hx : ∀ x ∈ l, ExprAt x) (e : ByteArray) (hl : l.length ≤ 1000000000) (hs : bs.length + (listE l).length + e.size ≤ 140737488355328) :
    CallE Tryd.prog 40 [.ptr j 0, .c (.sl (l.map cExpr)), .c (.str e)] M [q] (.tup []) (pgM M j q true t (bs ++ listE l ++ e.data.toList)) := by
  have hjs : (M j).isSome = true := by rw [h.box]; rfl
  have hqs : (M q).isSome = true := by rw [h.row]; rfl
  have bj : ∀ d, j ≠ b + d := fun d k => by have := hM d; rw [← k] at this; rw [this] at hjs; cases hjs
  have bq : ∀ d, q ≠ b + d := fun d k => by have := hM d; rw [← k] at this; rw [this] at hqs; cases hqs
  refine (ok_eff tab_ok [q] Tryd.func40 (by kernel_rfl) rfl rfl (by rfl) (by rfl) ?ids ?res ?sub ?wfm (fun hWF Rr hkeep => ?_))
  case ids => intro a ha i hi; simp at ha; rcases ha with rfl | rfl | rfl <;> simp [A.ids] at hi; subst hi; exact hjs
  case res => intro i hi; simp [A.ids] at hi
  case sub => exact pgM_live
  case wfm => exact pgM_wf h
  have nkq : ¬ Rr.keep q := by rw [hkeep]; intro hh; exact hh.2 (by simp)
  have kept : ∀ i, Rr.keep i → (M i).isSome = true := fun i hi => by rw [hkeep] at hi; exact hi.1
  have jq : (j = q) = False := eq_false h.ne
  repeat (first | refine W.seq ?_ | refine W.block ?_ | refine W.skip ?_ | refine W.exit ?_ | refine W.region tab_ok b (by decide) (exec_run (by simp only [exa, beq_self_eq_true, ByteArray.size, Nat.reduceAdd, Nat.reduceLeDiff, Nat.reduceEqDiff, Nat.reduceMul, Int.reduceToNat, reduceIte, Int.reduceLE, Int.reduceNeg]; rfl)) ?_)
  refine W.loop (ι := Nat) (fun k => ⟨upd (upd (upd (upd (upd (fun _ => .top) 0 (.ptr j 0)) 2 (.c (.str e))) 8 (.c (.sl (l.map cExpr)))) 9 (.c (.int .i64 l.length))) 10 (.c (.int .i64 k)), pgM M j q (u || decide (0 < k)) t (bs ++ commaX ((l.map (exprX · 1)).take k))⟩) (fun k => k ≤ l.length) (fun k => l.length - k) 0 ?start (Nat.zero_le _) ?round
  case start =>
    refine le_mk ?sle ?mle ?swf ?mwf (fun i hi => pgM_live i (kept i hi)) (by rfl)
    case swf => repeat (first | exact swf_top _ | refine swf_upd ?_ (by intro i hi; simp [A.ids] at hi; first | (subst hi; exact pgM_live _ hjs) | done))
    case mwf => exact pgM_wf h hWF
    case mle =>
      have e : pgM M j q (u || decide (0 < 0)) t (bs ++ commaX ((l.map (exprX · 1)).take 0)) = M := by
        simp only [Nat.lt_irrefl, decide_false, Bool.or_false, List.take_zero, commaX, List.append_nil]; exact pgM_same h
      exact mle_refl' e.symm
    case sle => repeat (first | exact sle_top _ | exact sle_refl _ | refine sle_upd ?_ (by first | rfl | (simp only [upd_app, killS_app, A.kill, entry_zero, entry_succ, Nat.reduceEqDiff, reduceIte, List.length_map]; done)))
  case round =>
    intro k hk
    repeat (first | refine W.seq ?_ | refine W.block ?_ | refine W.skip ?_ | refine W.exit ?_ | refine W.region tab_ok b (by decide) (exec_run (by simp only [exa, beq_self_eq_true, ByteArray.size, Nat.reduceAdd, Nat.reduceLeDiff, Nat.reduceEqDiff, Nat.reduceMul, Int.reduceToNat, reduceIte, Int.reduceLE, Int.reduceNeg]; rfl)) ?_)
    refine W.cond rfl ?_ ?_
    · intro hlt
      simp only [decide_eq_true_eq, Int.ofNat_lt] at hlt
      obtain ⟨x, hxk⟩ : ∃ x, l[k]? = some x := ⟨_, List.getElem?_eq_getElem hlt⟩
      have htk := commaX_take hxk
      have hle := commaX_le (l.map (exprX · 1)) (k + 1)
      have hlE : (listE l).length = (commaX (l.map (exprX · 1))).length := rfl
      have hlen := congrArg List.length htk
      simp only [List.length_append] at hlen
      have b7 := hM 7
      obtain ⟨u1, hu1⟩ : ∃ u1, u1 = (u || decide (0 < k)) := ⟨_, rfl⟩
      obtain ⟨b1, hb1⟩ : ∃ b1, b1 = bs ++ commaX ((l.map (exprX · 1)).take k) := ⟨_, rfl⟩
      have hlb : b1.length = bs.length + (commaX ((l.map (exprX · 1)).take k)).length := by rw [hb1, List.length_append]
      rw [← hu1, ← hb1]
      obtain ⟨xk, xn, xm, xs⟩ := x
      have hf7 : pgM M j q u1 t b1 (b + 7) = none := pgM_none h b7
      have hp1 : PgAt (pgM M j q u1 t b1) j q u1 t b1 := h.pgM
      have b7j : (b + 7 = j) = False := eq_false (Ne.symm (bj 7))
      have b7q : (b + 7 = q) = False := eq_false (Ne.symm (bq 7))
      have jb7 : (j = b + 7) = False := eq_false (bj 7)
      repeat (first | refine W.seq ?_ | refine W.block ?_ | refine W.skip ?_ | refine W.exit ?_ | refine W.region tab_ok b (by decide) (exec_run (by simp only [exa, beq_self_eq_true, ByteArray.size, Nat.reduceAdd, Nat.reduceLeDiff, Nat.reduceEqDiff, Nat.reduceMul, Int.reduceToNat, reduceIte, Int.reduceLE, Int.reduceNeg, at_map hxk, cExpr, hf7]; rfl)) ?_)
      simp only [upd_upd]
      refine W.cond rfl ?_ ?_
      · intro hk0
        simp only [decide_eq_true_eq] at hk0
        have hk0 : k ≠ 0 := by omega
        rw [if_neg hk0] at htk hlen
        simp only [List.length_cons, List.length_nil] at hlen
        have hl := lay_ok (hp1.new hf7 (o := .box 24 [.c (.int .i64 xk), .c (.int .i64 xn), .c (.str xm), .c (.sl (cExprs xs))]) rfl) [⟨#[44, 32]⟩] (by decide) (by simp [txtB]; omega)
        rw [pgM_upd (bj 7) (bq 7), pgM_pgM h.ne, show layU u1 [(⟨#[44, 32]⟩ : ByteArray)] = true by simp [layU]] at hl
        obtain ⟨b2, hb2⟩ : ∃ b2, b2 = b1 ++ txtB [(⟨#[44, 32]⟩ : ByteArray)] := ⟨_, rfl⟩
        rw [← hb2] at hl
        have hb2' : b2 = b1 ++ [44, 32] := by rw [hb2]; rfl
        (repeat (first | refine W.seq ?_ | refine W.block ?_ | refine W.skip ?_))
        refine W.regionK tab_ok b (by decide) ?_
        refine runk_split 2 (by simp only [exa, beq_self_eq_true, ByteArray.size, Nat.reduceAdd, Nat.reduceLeDiff, Nat.reduceEqDiff, Nat.reduceMul, Int.reduceToNat, reduceIte, Int.reduceLE, Int.reduceNeg]; rfl) ?_
        refine runk_callE (D := [q]) rfl rfl rfl rfl rfl (fun i hi => by simp at hi; subst hi; exact nkq) (by simp) (cvs_cons cv_refl (cvs_cons cv_refl cvs_nil)) hl ?_
        simp only [killL, putS]
        refine runk_exec (by simp only [exa, beq_self_eq_true, ByteArray.size, Nat.reduceAdd, Nat.reduceLeDiff, Nat.reduceEqDiff, Nat.reduceMul, Int.reduceToNat, reduceIte, Int.reduceLE, Int.reduceNeg]; rfl) ?_
        have hw := hx _ (List.mem_of_getElem? hxk) (upd (pgM M j q true t b2) (b + 7) (some (.box 24 [.c (.int .i64 xk), .c (.int .i64 xn), .c (.str xm), .c (.sl (cExprs xs))]))) j q true t b2 (b + 8) 1 (h.pgM.new (pgM_none h b7) rfl) (fun d => by rw [upd_ne _ _ (by omega), Nat.add_assoc]; exact pgM_none h (hM _)) (by rw [hb2', List.length_append]; simp only [List.length_cons, List.length_nil]; omega)
        rw [pgM_upd (bj 7) (bq 7), pgM_pgM h.ne] at hw
        (repeat (first | refine W.seq ?_ | refine W.block ?_ | refine W.skip ?_))
        refine W.regionK tab_ok b (by decide) ?_
        refine runk_split 2 (by simp only [exa, beq_self_eq_true, ByteArray.size, Nat.reduceAdd, Nat.reduceLeDiff, Nat.reduceEqDiff, Nat.reduceMul, Int.reduceToNat, reduceIte, Int.reduceLE, Int.reduceNeg, upd_same, killS_app, A.kill, jq, b7q, if_false, cExpr]; rfl) ?_
        refine runk_callE (D := [q]) rfl rfl rfl rfl rfl (fun i hi => by simp at hi; subst hi; exact nkq) (by simp) (cvs_cons cv_refl (cvs_cons cv_refl (cvs_cons cv_refl cvs_nil))) hw ?_
        simp only [killL, putS]
        refine runk_exec (by simp only [exa, beq_self_eq_true, ByteArray.size, Nat.reduceAdd, Nat.reduceLeDiff, Nat.reduceEqDiff, Nat.reduceMul, Int.reduceToNat, reduceIte, Int.reduceLE, Int.reduceNeg]; rfl) ?_
        repeat (first | refine W.seq ?_ | refine W.block ?_ | refine W.skip ?_ | refine W.exit ?_ | refine W.region tab_ok b (by decide) (exec_run (by simp only [exa, beq_self_eq_true, ByteArray.size, Nat.reduceAdd, Nat.reduceLeDiff, Nat.reduceEqDiff, Nat.reduceMul, Int.reduceToNat, reduceIte, Int.reduceLE, Int.reduceNeg, killS_app, A.kill, jq, b7q, if_false]; rfl)) ?_)
        refine ⟨k + 1, hlt, by omega, ?_⟩
        rw [show (u || decide (0 < k + 1)) = true by simp]
        refine le_mk ?sle ?mle ?swf ?mwf (fun i hi => pgM_live i (kept i hi)) (by rfl)
        case swf => repeat (first | exact swf_top _ | refine swf_upd ?_ (by intro i hi; simp [A.ids] at hi; first | (subst hi; exact pgM_live _ hjs) | done))
        case mwf => exact pgM_wf h hWF
        case mle => exact mle_eq (congrArg (pgM M j q true t) (by rw [htk, hb2', hb1]; simp [List.append_assoc])) (mle_off (pgM_none h b7))
        case sle => repeat (first | exact sle_top _ | exact sle_refl _ | refine sle_upd ?_ (by first | rfl | (simp only [upd_app, killS_app, A.kill, entry_zero, entry_succ, Nat.reduceEqDiff, reduceIte, h.ne, if_false, wrap_succ (show k + 1 < 9223372036854775808 by omega)]; done)))
      · intro hk0
        simp only [decide_eq_false_iff_not] at hk0
        have hk0 : k = 0 := by omega
        rw [if_pos hk0] at htk hlen
        simp only [List.length_nil] at hlen
        (repeat (first | refine W.seq ?_ | refine W.block ?_ | refine W.skip ?_))
        have hw := hx _ (List.mem_of_getElem? hxk) (upd (pgM M j q u1 t b1) (b + 7) (some (.box 24 [.c (.int .i64 xk), .c (.int .i64 xn), .c (.str xm), .c (.sl (cExprs xs))]))) j q u1 t b1 (b + 8) 1 (h.pgM.new (pgM_none h b7) rfl) (fun d => by rw [upd_ne _ _ (by omega), Nat.add_assoc]; exact pgM_none h (hM _)) (by omega)
        rw [pgM_upd (bj 7) (bq 7), pgM_pgM h.ne] at hw
        (repeat (first | refine W.seq ?_ | refine W.block ?_ | refine W.skip ?_))
        refine W.regionK tab_ok b (by decide) ?_
        refine runk_split 2 (by simp only [exa, beq_self_eq_true, ByteArray.size, Nat.reduceAdd, Nat.reduceLeDiff, Nat.reduceEqDiff, Nat.reduceMul, Int.reduceToNat, reduceIte, Int.reduceLE, Int.reduceNeg, upd_same, killS_app, A.kill, jq, b7q, if_false, cExpr]; rfl) ?_
        refine runk_callE (D := [q]) rfl rfl rfl rfl rfl (fun i hi => by simp at hi; subst hi; exact nkq) (by simp) (cvs_cons cv_refl (cvs_cons cv_refl (cvs_cons cv_refl cvs_nil))) hw ?_
        simp only [killL, putS]
        refine runk_exec (by simp only [exa, beq_self_eq_true, ByteArray.size, Nat.reduceAdd, Nat.reduceLeDiff, Nat.reduceEqDiff, Nat.reduceMul, Int.reduceToNat, reduceIte, Int.reduceLE, Int.reduceNeg]; rfl) ?_
        repeat (first | refine W.seq ?_ | refine W.block ?_ | refine W.skip ?_ | refine W.exit ?_ | refine W.region tab_ok b (by decide) (exec_run (by simp only [exa, beq_self_eq_true, ByteArray.size, Nat.reduceAdd, Nat.reduceLeDiff, Nat.reduceEqDiff, Nat.reduceMul, Int.reduceToNat, reduceIte, Int.reduceLE, Int.reduceNeg, killS_app, A.kill, jq, b7q, if_false]; rfl)) ?_)
        refine ⟨k + 1, hlt, by omega, ?_⟩
        rw [show (u || decide (0 < k + 1)) = true by simp]
        refine le_mk ?sle ?mle ?swf ?mwf (fun i hi => pgM_live i (kept i hi)) (by rfl)
        case swf => repeat (first | exact swf_top _ | refine swf_upd ?_ (by intro i hi; simp [A.ids] at hi; first | (subst hi; exact pgM_live _ hjs) | done))
        case mwf => exact pgM_wf h hWF
        case mle => exact mle_eq (congrArg (pgM M j q true t) (by rw [htk, hb1]; simp [List.append_assoc])) (mle_off (pgM_none h b7))
        case sle => repeat (first | exact sle_top _ | exact sle_refl _ | refine sle_upd ?_ (by first | rfl | (simp only [upd_app, killS_app, A.kill, entry_zero, entry_succ, Nat.reduceEqDiff, reduceIte, h.ne, if_false, wrap_succ (show k + 1 < 9223372036854775808 by omega)]; done)))
    · intro hge
      simp only [decide_eq_false_iff_not, Int.ofNat_lt] at hge
      obtain rfl : k = l.length := by omega
      rw [List.take_of_length_le (by simp)]
      repeat (first | refine W.seq ?_ | refine W.block ?_ | refine W.skip ?_ | refine W.exit ?_ | refine W.region tab_ok b (by decide) (exec_run (by simp only [exa, beq_self_eq_true, ByteArray.size, Nat.reduceAdd, Nat.reduceLeDiff, Nat.reduceEqDiff, Nat.reduceMul, Int.reduceToNat, reduceIte, Int.reduceLE, Int.reduceNeg]; rfl)) ?_)
      (repeat (first | refine W.seq ?_ | refine W.block ?_ | refine W.skip ?_))
      refine W.regionK tab_ok b (by decide) ?_
      have hw := lay_ok (h.pgM (u' := (u || decide (0 < l.length))) (t' := t) (bs' := bs ++ commaX (l.map (exprX · 1)))) [e] (by simp) (by simp [txtB]; simp [listE] at hs; omega)
      rw [show layU (u || decide (0 < l.length)) [e] = true by simp [layU], pgM_pgM h.ne] at hw
      refine runk_split 3 (by simp only [exa, beq_self_eq_true, ByteArray.size, Nat.reduceAdd, Nat.reduceLeDiff, Nat.reduceEqDiff, Nat.reduceMul, Int.reduceToNat, reduceIte, Int.reduceLE, Int.reduceNeg]; rfl) ?_
      refine runk_callE (D := [q]) rfl rfl rfl rfl rfl (fun i hi => by simp at hi; subst hi; exact nkq) (by simp) (cvs_cons cv_refl (cvs_cons cv_refl cvs_nil)) hw ?_
      simp only [killL, putS]
      refine runk_exec (by simp only [exa, beq_self_eq_true, ByteArray.size, Nat.reduceAdd, Nat.reduceLeDiff, Nat.reduceEqDiff, Nat.reduceMul, Int.reduceToNat, reduceIte, Int.reduceLE, Int.reduceNeg]; rfl) ?_
      refine ⟨by simp, by rfl, by rfl, mle_refl' ?_⟩
      simp [txtB, listE, List.append_assoc]
end V
end Go.Proofs.YtbmbmcdaabhgnaaDoor
end
section
namespace Go.Proofs.YtbmbmcdaabhgnaaDoor
namespace V
open Go.RowKit
section
variable {P : Go.Program} {T : Tab} {base : Nat} {ops : Array Oper} (hT : T.Ok P) {R : Ref} {w : World} {n : Nat} {ds : List Deferred} {l n' : Nat}
include hT
theorem plain_round (hd : ∀ o ∈ ops, ∀ d, o.dst = some d → d < n) (hnd : noDefer ops = true) {Q : Exit → Act → World → Prop} {st' : St} (hQ : ∀ a w, SR R n ds st' a w → Q .normal a w) :
    ∀ (L : List Nat) (st : St) (a : Act) (w : World), Chain P T R.keep base ops L st st' → SR R n ds st a w → wpOpsIn (Fence.wide.inRound l) n' P ops Q L a w
  | [], st, a, w, h, hr => by cases h; exact hQ a w hr
  | i :: L, st, a, w, h, hr => by
    cases h with
    | @cons _ o _ _ st1 _ hi h1 t =>
      unfold wpOpsIn
      simp only [hi]
      have hgo := h1.snd hT hr (hd o (Array.mem_of_getElem? hi)) (K := wpOpsIn (Fence.wide.inRound l) n' P ops Q L) (Q := Q) (fun a' w' hr' => plain_round hd hnd hQ L st1 a' w' t hr')
      split
      · rename_i hw; rw [if_pos hw] at hgo; exact oper_round (noDefer_spec hnd hi) hgo
      · rename_i hw; rw [if_neg hw] at hgo; exact ⟨fun _ _ => trivial, hgo⟩
end
def WI (l n' : Nat) (P : Go.Program) (R : Ref) (n : Nat) (ds : List Deferred) (st : St) (c : Code) (K : Exit → St → Prop) : Prop :=
  ∀ a w, SR R n ds st a w → c.wpIn (Fence.wide.inRound l) n' P (fun e a' w' => ∃ st', K e st' ∧ SR R n ds st' a' w') a w
section
variable {l n' : Nat} {P : Go.Program} {T : Tab} {R : Ref} {n : Nat} {ds : List Deferred} {st : St} {K : Exit → St → Prop}
theorem WI.mono {c : Code} {K' : Exit → St → Prop} (h : WI l n' P R n ds st c K) (hk : ∀ e st', K e st' → K' e st') : WI l n' P R n ds st c K' :=
  fun a w hr => wpIn_mono (h a w hr) fun e _ _ ⟨st', h1, h2⟩ => ⟨st', hk e st' h1, h2⟩
theorem WI.region (hT : T.Ok P) (base : Nat) {id : Nat} {ops : Array Oper} {st' : St} (hd : dstOk n ops = true) (hnd : noDefer ops = true) (h : RunL P T R.keep base ops ops.toList st st') (hk : K .normal st') : WI l n' P R n ds st (.region id ops false) K := fun a w hr =>
  wpIn_region (plain_round hT (dstOk_spec hd) hnd (fun a w hr' => ⟨st', hk, hr'⟩) _ st a w (by rw [range_range']; have := h.chain (k := 0) (by simp); simpa using this) hr)
theorem WI.regionD (hT : T.Ok P) (base : Nat) {id : Nat} {ops : Array Oper} {st' : St} (hm : P.follows .mixedOrders = true) (hok : okRegion T ops = true) (hd : dstOk n ops = true) (hnd : noDefer ops = true) (h : RunL P T R.keep base ops ops.toList st st') (hk : K .normal st') : WI l n' P R n ds st (.region id ops true) K := fun a w hr => by
  refine wpIn_mono (Q := fun e a w => e = .normal ∧ SR R n ds st' a w) (region_round (fun ⟨_, _, h, _⟩ => by cases h) hm hnd (any_snd hT hok (dstOk_spec hd) (fun a w hr' => ⟨rfl, hr'⟩) _ _ (List.range ops.size) st a _ (by simp) (by simp) (List.pairwise_lt_range) (fun i => ?_) (fun k o ho hl => ?_) ?_ (by rw [range_range']; have := h.chain (k := 0) (by simp); simpa using this))) fun e a w h => ⟨st', h.1 ▸ hk, h.2⟩
  · rw [List.mem_range]
    refine ⟨fun hi => ⟨hi, ?_⟩, fun hi => hi.1⟩
    simp [hi]
  · exfalso
    have hk := (Array.getElem?_eq_some_iff.1 ho).1
    simp [hk] at hl
  · obtain ⟨⟨B, I, hmr, hx0, hkp, hs⟩, h2, h3, hnn, h4, h5⟩ := hr
    have hE : Ext w w.drew I I := ⟨fun _ _ k => k, fun _ _ _ => rfl⟩
    exact ⟨⟨B, I, hmr.call (Below.refl _ _).drew, hx0.trans hE, hkp, fun t => (hs t).mono hE fun _ _ => rfl⟩, h2, h3, hnn, h4, h5⟩
theorem WI.seq {x y : Code} (h : WI l n' P R n ds st x (thenK (fun st' => WI l n' P R n ds st' y K) K)) : WI l n' P R n ds st (.seq x y) K := fun a w hr =>
  wpIn_seq (wpIn_mono (h a w hr) fun e a' w' ⟨st', h1, h2⟩ => by
    cases e with
    | normal => exact h1 a' w' h2
    | _ => exact ⟨st', h1, h2⟩)
theorem WI.cond {c : Operand} {x y : Code} {b : Bool} (hc : ev st.s c = .c (.bool b)) (ht : b = true → WI l n' P R n ds st x K) (hf : b = false → WI l n' P R n ds st y K) : WI l n' P R n ds st (.cond c x y) K := fun a w hr => by
  obtain ⟨B, I, hm, -, -, hs⟩ := hr.ex
  have := ev_rv hs c
  rw [hc] at this
  exact wpIn_cond_split (RC.toBool this) (fun e => ht e a w hr) (fun e => hf e a w hr)
theorem WI.block {id : Nat} {c : Code} (h : WI l n' P R n ds st c (blockK id K)) : WI l n' P R n ds st (.block id c) K := fun a w hr =>
  wpIn_block (wpIn_mono (h a w hr) fun e a' w' ⟨st', h1, h2⟩ => by
    cases e with
    | exit j =>
      simp only [blockK, Exit.inBlock] at h1 ⊢
      split
      · rename_i e; rw [if_pos e] at h1; exact ⟨st', h1, h2⟩
      · rename_i e; rw [if_neg e] at h1; exact ⟨st', h1, h2⟩
    | _ => exact ⟨st', h1, h2⟩)
theorem WI.exit {id : Nat} (h : K (.exit id) st) : WI l n' P R n ds st (.exit id) K := fun _ _ hr => wpIn_exit ⟨st, h, hr⟩
theorem WI.ret (h : K .ret st) : WI l n' P R n ds st .ret K := fun _ _ hr => wpIn_ret ⟨st, h, hr⟩
theorem WI.skip (h : K .normal st) : WI l n' P R n ds st .skip K := fun _ _ hr => wpIn_skip ⟨st, h, hr⟩
theorem WI.weaken {st' : St} {c : Code} (hl : Le R.keep st st') (h : WI l n' P R n ds st' c K) : WI l n' P R n ds st c K := fun a w hr => h a w (hr.le hl)
theorem WI.loop {ι : Type} {c : Code} (mk : ι → St) (Inv : ι → Prop) (μ : ι → Nat) (i0 : ι) (hl : Le R.keep st (mk i0)) (h0 : Inv i0)
    (hround : ∀ i, Inv i → WI l n' P R n ds (mk i) c (thenK (fun st' => ∃ i', Inv i' ∧ μ i' < μ i ∧ Le R.keep st' (mk i')) K)) : WI l n' P R n ds st (.loop c) K := by
  refine WI.weaken hl ?_
  intro a w hr
  refine wpIn_loop_ghost (fun k a w => ∃ i, Inv i ∧ μ i = k ∧ SR R n ds (mk i) a w) (μ i0) ⟨i0, h0, rfl, hr⟩ ?_
  rintro k a w ⟨i, hi, rfl, hr⟩
  refine wpIn_mono (hround i hi a w hr) ?_
  rintro e a' w' ⟨st', h1, h2⟩
  cases e with
  | normal =>
    obtain ⟨i', hi', hlt, hle⟩ := h1
    exact ⟨μ i', hlt, i', hi', rfl, h2.le hle⟩
  | _ => exact ⟨st', h1, h2⟩
theorem WI.regionK (hT : T.Ok P) (base : Nat) {id : Nat} {ops : Array Oper} (hd : dstOk n ops = true) (hnd : noDefer ops = true) (h : RunK P T R.keep base ops ops.toList st (K .normal)) : WI l n' P R n ds st (.region id ops false) K :=
  let ⟨_, h1, h2⟩ := h
  WI.region hT base hd hnd h1 h2
theorem WI.regionDK (hT : T.Ok P) (base : Nat) {id : Nat} {ops : Array Oper} (hm : P.follows .mixedOrders = true) (hok : okRegion T ops = true) (hd : dstOk n ops = true) (hnd : noDefer ops = true) (h : RunK P T R.keep base ops ops.toList st (K .normal)) : WI l n' P R n ds st (.region id ops true) K :=
  let ⟨_, h1, h2⟩ := h
  WI.regionD hT base hm hok hd hnd h1 h2
end
end V
end Go.Proofs.YtbmbmcdaabhgnaaDoor
end
section
set_option linter.unusedVariables false
set_option linter.unusedSimpArgs false
namespace Go.Proofs.YtbmbmcdaabhgnaaDoor
namespace V
open Go.RowKit
def Runs (P : Go.Program) (T : Tab) (kp : Nat → Prop) (base : Nat) (ops : Array Oper) (K : St → Prop) : Nat → Array Bool → St → Prop
  | 0, listed, st => Region.ready .any ops listed = [] ∧ K st
  | f + 1, listed, st => (Region.ready .any ops listed = [] → K st) ∧ ∀ i ∈ Region.ready .any ops listed, ∀ o, ops[i]? = some o → ∃ st1, HS P T kp base ops o st st1 ∧ Runs P T kp base ops K f (listed.setIfInBounds i true) st1
section
variable {P : Go.Program} {T : Tab} (hT : T.Ok P) {R : Ref} {w : World} {n base : Nat} {ds : List Deferred} {ops : Array Oper}
include hT in
end
section
variable {P : Go.Program} {T : Tab} {kp : Nat → Prop} {base f : Nat} {ops : Array Oper} {K : St → Prop} {listed : Array Bool} {st st1 st2 : St}
end
section
variable {l n' : Nat} {P : Go.Program} {T : Tab} {R : Ref} {n : Nat} {ds : List Deferred} {st : St} {K : Exit → St → Prop}
end
end V
end Go.Proofs.YtbmbmcdaabhgnaaDoor
end
section
set_option linter.unusedVariables false
set_option linter.unusedSimpArgs false
namespace Go.Proofs.YtbmbmcdaabhgnaaDoor
namespace V
open Go.RowKit
section
variable {P : Go.Program} {T : Tab} {kp : Nat → Prop} {base : Nat} {ops : Array Oper} {K : St → Prop}
def RunsW (P : Go.Program) (T : Tab) (kp : Nat → Prop) (base : Nat) (ops : Array Oper) (K : St → Prop) (f : Nat) (listed : Array Bool) (st : St) : Prop := listed.size = ops.size → ClosedL ops listed → WF st → Runs P T kp base ops K f listed st
theorem runs_mono {K' : St → Prop} (hk : ∀ st, K st → K' st) : ∀ {f : Nat} {listed : Array Bool} {st : St}, Runs P T kp base ops K f listed st → Runs P T kp base ops K' f listed st
  | 0, _, _, h => ⟨h.1, hk _ h.2⟩
  | _ + 1, _, _, h => ⟨fun e => hk _ (h.1 e), fun i hi o ho => let ⟨st1, h1, h2⟩ := h.2 i hi o ho; ⟨st1, h1, runs_mono hk h2⟩⟩
theorem RunsW.mono {K' : St → Prop} (hk : ∀ st, K st → K' st) {f : Nat} {listed : Array Bool} {st : St} (h : RunsW P T kp base ops K f listed st) : RunsW P T kp base ops K' f listed st := fun a b c => runs_mono hk (h a b c)
end
section
variable {l n' : Nat} {P : Go.Program} {T : Tab} {R : Ref} {n : Nat} {ds : List Deferred} {st : St} {K : Exit → St → Prop}
end
end V
end Go.Proofs.YtbmbmcdaabhgnaaDoor
end
section
set_option linter.unusedVariables false
set_option linter.unusedSimpArgs false
namespace Go.Proofs.YtbmbmcdaabhgnaaDoor
namespace V
open Go.RowKit
structure XS (P : Go.Program) (T : Tab) (kp : Nat → Prop) (ops : Array Oper) (o : Oper) (st : St) (ch : List PanicEntry) (st' : St) : Prop where
  run : ∀ (R : Ref) (n : Nat) (ds : List Deferred) (a : Act) (w : World) (K : Act → World → Prop) (Q : Exit → Act → World → Prop), R.keep = kp → SR R n ds st a w → (∀ a' w', SR R n ds st' a' w' → Q (.panic ch) a' w') →
    Region.wanted o (yielded ops a.tmps) = true ∧ o.wp P a w K Q
section
variable {P : Go.Program} {T : Tab} {kp : Nat → Prop} {ops : Array Oper}
end
section
variable {P : Go.Program} {T : Tab} {kp : Nat → Prop} {base : Nat} {ops : Array Oper}
variable (hT : T.Ok P) {R : Ref} {n : Nat} {ds : List Deferred}
include hT
omit hT in
theorem runl_chain : ∀ {l : List Oper} {k : Nat} {st st' : St}, (∀ j x, l[j]? = some x → ops[k + j]? = some x) → RunL P T kp base ops l st st' → Chain P T kp base ops (List.range' k l.length) st st'
  | [], _, _, _, _, h => by cases h; exact .nil _
  | o :: l, k, _, _, hl, h => by
    cases h with
    | cons h t =>
      refine .cons (by simpa using hl 0 o rfl) h (runl_chain (fun j x hx => ?_) t)
      have := hl (j + 1) x (by simpa using hx)
      rwa [show k + 1 + j = k + (j + 1) by omega]
end
section
variable {P : Go.Program} {T : Tab} (hT : T.Ok P) {R : Ref} {n base : Nat} {ds : List Deferred} {ops : Array Oper} {ch : List PanicEntry}
include hT in
include hT in
end
section
variable {P : Go.Program} {T : Tab} {kp : Nat → Prop} {base f : Nat} {ops : Array Oper} {ch : List PanicEntry} {K Kp : St → Prop} {listed : Array Bool} {st : St}
end
end V
end Go.Proofs.YtbmbmcdaabhgnaaDoor
end
section
set_option linter.unusedVariables false
set_option linter.unusedSimpArgs false
namespace Go.Proofs.YtbmbmcdaabhgnaaDoor
namespace V
open Go.RowKit
section
variable {P : Go.Program} {T : Tab} {base : Nat} {ops : Array Oper} (hT : T.Ok P) {R : Ref} {n : Nat} {ds : List Deferred}
include hT
theorem chain_snd (hd : ∀ o ∈ ops, ∀ d, o.dst = some d → d < n) {Q : Exit → Act → World → Prop} {st1 : St} {l2 : List Nat} (hQ : ∀ a w, SR R n ds st1 a w → wpOps P ops Q l2 a w) :
    ∀ (l : List Nat) (st : St) (a : Act) (w : World), Chain P T R.keep base ops l st st1 → SR R n ds st a w → wpOps P ops Q (l ++ l2) a w
  | [], st, a, w, h, hr => by
    cases h
    exact hQ a w hr
  | j :: l, st, a, w, h, hr => by
    cases h with
    | @cons _ o' _ _ st1' _ hi h1 t =>
      rw [List.cons_append, wpOps_cons]
      unfold wpOp
      rw [hi]
      have hgo := h1.snd hT hr (hd o' (Array.mem_of_getElem? hi)) (K := wpOps P ops Q (l ++ l2)) (Q := Q) (fun a' w' hr' => chain_snd hd hQ l st1' a' w' t hr')
      dsimp only
      split
      · rename_i hw; rw [if_pos hw] at hgo; exact .inl hgo
      · rename_i hw; rw [if_neg hw] at hgo; exact hgo
def dfr (s : Nat → A) (g : FuncId) (v1 v2 : Value) (j : Nat) (z : C) : Nat → A :=
  upd (upd (upd s DID (.defs ({ target := .fn (.func g) #[], args := #[v1, v2] } :: dfs (s DID)))) (DID + 1) (.pinP v1 j 0)) (DID + 2) (.pinC v2 z)
omit hT in
theorem dfr_DID {s : Nat → A} {g : FuncId} {v1 v2 : Value} {j : Nat} {z : C} : dfr s g v1 v2 j z DID = .defs ({ target := .fn (.func g) #[], args := #[v1, v2] } :: dfs (s DID)) := by
  unfold dfr
  rw [upd_ne _ _ (by decide), upd_ne _ _ (by decide), upd_same]
theorem W.deferTwo {st st1 : St} {K : Exit → St → Prop} {id : Nat} {l1 : List Oper} {o : Oper} {c : Call} {g : FuncId} {x y : Operand} {j : Nat} {z : C} (base : Nat) (hd : dstOk n ops = true) (hops : ops.toList = l1 ++ [o]) (h1 : exec T base ops l1 st = some st1) (hw : wantA ops o st1.s = some true) (hop : o.op = .defer c) (hc : c.callee = .value (.func g)) (ha : c.args = #[x, y]) (hdst : o.dst = none)
    (hx : ev st1.s x = .ptr j 0) (hj : (st1.m j).isSome = true) (hy : ev st1.s y = .c z) (h : ∀ v1 v2, K .normal ⟨dfr st1.s g v1 v2 j z, st1.m⟩) : W P R n ds st (.region id ops false) K := fun a w hr => by
  refine wp_region ?_
  have hsz : ops.size = l1.length + 1 := by rw [← Array.length_toList, hops]; simp
  have hrg : List.range ops.size = List.range' 0 l1.length ++ [l1.length] := by rw [hsz, List.range_succ, List.range_eq_range']
  have hi : ops[l1.length]? = some o := by rw [← Array.getElem?_toList, hops]; simp
  rw [hrg]
  refine chain_snd hT (base := base) (dstOk_spec hd) ?_ _ st a w (runl_chain (k := 0) (fun k x hx => ?_) (exec_run h1)) hr
  · clear hr a w
    intro a w hr
    obtain ⟨B, I, hm, hx0, hkp, hs⟩ := hr.ex
    rw [wpOps_cons]
    unfold wpOp
    have hwt := want_snd hs hw
    rw [hi]
    dsimp only
    rw [if_pos hwt]
    refine .inl ?_
    unfold Oper.wp Oper.upon
    have hrun : (execOp a.eval o).run P w = .ok (.defer { target := .fn (.func g) #[], args := #[a.eval x, a.eval y] }) w := by
      simp only [execOp, hop, resolve, hc, ha, Act.eval, Deferred.ofValue, Sem.run_bind, Sem.run_pure, Result.andThen_ok]
      simp [Act.eval]
    rw [hrun]
    have hv := ev_rv hs x
    rw [hx] at hv
    obtain ⟨b, hB, hv⟩ := hv
    have hv2 := ev_rv hs y
    rw [hy] at hv2
    have hput : ({ a with defers := { target := .fn (.func g) #[], args := #[a.eval x, a.eval y] } :: a.defers } : Act).put o.dst undef = { a with defers := { target := .fn (.func g) #[], args := #[a.eval x, a.eval y] } :: a.defers } := by rw [hdst]; rfl
    show wpOps P ops _ [] _ _
    rw [hput]
    refine ⟨_, h (a.eval x) (a.eval y), ⟨B, I, hm, hx0, hkp, fun t => ?_⟩, fun t i hi => ?_, hr.size, hr.nn, ?_, hr.kept⟩
    · show RV B w I (dfr st1.s g (a.eval x) (a.eval y) j z t) (a.tmps.getD t undef)
      unfold dfr
      by_cases e3 : t = DID + 2
      · subst e3; rw [upd_same]; exact hv2
      rw [upd_ne _ _ e3]
      by_cases e : t = DID + 1
      · subst e; rw [upd_same]; exact ⟨b, hB, hv⟩
      · rw [upd_ne _ _ e]
        by_cases e2 : t = DID
        · subst e2; rw [upd_same]; trivial
        · rw [upd_ne _ _ e2]; exact hs t
    · have hi : i ∈ (dfr st1.s g (a.eval x) (a.eval y) j z t).ids := hi
      unfold dfr at hi
      by_cases e3 : t = DID + 2
      · subst e3; rw [upd_same] at hi; simp [A.ids] at hi
      rw [upd_ne _ _ e3] at hi
      by_cases e : t = DID + 1
      · subst e
        rw [upd_same] at hi
        simp [A.ids] at hi; subst hi
        exact hj
      · rw [upd_ne _ _ e] at hi
        by_cases e2 : t = DID
        · subst e2; rw [upd_same] at hi; simp [A.ids] at hi
        · rw [upd_ne _ _ e2] at hi; exact hr.ids t i hi
    · show _ :: a.defers = dfs (dfr st1.s g (a.eval x) (a.eval y) j z DID) ++ ds
      rw [dfr_DID, hr.defs]; rfl
  · rw [Nat.zero_add, ← Array.getElem?_toList, hops, List.getElem?_append_left (List.getElem?_eq_some_iff.1 hx).1]
    exact hx
theorem W.deferAt {st st1 : St} {K : Exit → St → Prop} {id : Nat} {o : Oper} {c : Call} {g : FuncId} {x y : Operand} {j : Nat} {z : C} (base i : Nat) (hd : dstOk n ops = true) (hsz : ops.size = i + 1) (ho : ops[i]? = some o) (h1 : exec T base ops (ops.toList.take i) st = some st1) (hw : wantA ops o st1.s = some true) (hop : o.op = .defer c) (hc : c.callee = .value (.func g)) (ha : c.args = #[x, y]) (hdst : o.dst = none)
    (hx : ev st1.s x = .ptr j 0) (hj : (st1.m j).isSome = true) (hy : ev st1.s y = .c z) (h : ∀ v1 v2, K .normal ⟨dfr st1.s g v1 v2 j z, st1.m⟩) : W P R n ds st (.region id ops false) K := by
  refine W.deferTwo hT base hd (l1 := ops.toList.take i) (o := o) ?_ h1 hw hop hc ha hdst hx hj hy h
  have hl : ops.toList.length = i + 1 := by rw [Array.length_toList]; exact hsz
  have h2 : ops.toList.drop i = [o] := by
    rw [← Array.getElem?_toList] at ho
    obtain ⟨hj, rfl⟩ := List.getElem?_eq_some_iff.1 ho
    rw [List.drop_eq_getElem_cons hj, List.drop_eq_nil_of_le (by omega)]
  rw [← h2, List.take_append_drop]
omit hT in
theorem dfr_lt {s : Nat → A} {g : FuncId} {v1 v2 : Value} {j : Nat} {z : C} {i : Nat} (h : i < DID) : dfr s g v1 v2 j z i = s i := by
  unfold dfr
  rw [upd_ne _ _ (Nat.ne_of_lt (Nat.lt_succ_of_lt (Nat.lt_succ_of_lt h))), upd_ne _ _ (Nat.ne_of_lt (Nat.lt_succ_of_lt h)), upd_ne _ _ (Nat.ne_of_lt h)]
omit hT in
theorem dfr_1 {s : Nat → A} {g : FuncId} {v1 v2 : Value} {j : Nat} {z : C} : dfr s g v1 v2 j z (DID + 1) = .pinP v1 j 0 := by
  unfold dfr
  rw [upd_ne _ _ (by decide), upd_same]
omit hT in
theorem dfr_2 {s : Nat → A} {g : FuncId} {v1 v2 : Value} {j : Nat} {z : C} : dfr s g v1 v2 j z (DID + 2) = .pinC v2 z := by
  unfold dfr
  rw [upd_same]
end
theorem ok_effT {P : Go.Program} {T : Tab} (hT : T.Ok P) {f : FuncId} {fn : Func} {c : Code} {args : List A} {M : Mem} (D : List Nat) {M' : Mem} {g : FuncId} {j : Nat} {z : C} (hinv : ∀ (v1 v2 : Value) (w : World), (invoke (.fn (.func g) #[]) #[v1, v2]).run P w = .ok (.enter g #[v1, v2]) w) (hf : P.funcs[f]? = some fn) (hn : (fn.name == "runtime.NumGoroutine") = false) (hb : fn.body = some c) (hl : fn.results.toList = [])
    (hle : decide (args.length ≤ fn.ntmps ∧ fn.ntmps ≤ DID) = true) (hdf : args.all (fun a => !(match a with | .defs _ => true | _ => false)) = true) (hids : ∀ a ∈ args, ∀ j ∈ a.ids, (M j).isSome = true) (hsub : ∀ j, (M j).isSome = true → (M' j).isSome = true) (hwm : WFm M → WFm M')
    (hW : WFm M → ∀ R : Ref, R.keep = (fun j => (M j).isSome = true ∧ j ∉ D) → W P R fn.ntmps [] ⟨entry args, M⟩ c (fun e st => (e = .normal ∨ e = .ret) ∧
      ((dfs (st.s DID) = [] ∧ MLe st.m M') ∨
       ∃ v1 v2 M1, dfs (st.s DID) = [{ target := .fn (.func g) #[], args := #[v1, v2] }] ∧ st.s (DID + 1) = .pinP v1 j 0 ∧ st.s (DID + 2) = .pinC v2 z ∧ MLe st.m M1 ∧ WFm M1 ∧ (∀ i, (M i).isSome = true → (M1 i).isSome = true) ∧ CallDf P g [.ptr j 0, .c z] M1 D M'))) : CallE P f args M D (.tup []) M' := by
  refine ⟨enters_of hf hn hb, fun j hj => by simp [A.ids] at hj, hsub, hwm, ?_⟩
  intro w0 I0 B I w vals hm hv
  have hWF : WFm M := hm.live
  have hd2 : ∀ a ∈ args, ∀ l, a ≠ .defs l := fun a ha l e => by have := List.all_eq_true.1 hdf a ha; subst e; simp at this
  obtain ⟨hl1, hl2⟩ := of_decide_eq_true hle
  have hlen := rvl_len hv
  refine calls_of_wp_defers hf hb ?_
  have h0 : SR ⟨w0, I0, w, I, B, fun j => (M j).isSome = true ∧ j ∉ D⟩ fn.ntmps [] ⟨entry args, M⟩ { tmps := vals.toArray ++ Array.replicate (fn.ntmps - vals.toArray.size) undef, defers := [] } w := by
    refine ⟨⟨B, I, hm, Ext.refl _ _, fun _ _ => rfl, rvl_entry hv⟩, fun t i hi => ?_, by simp [hlen]; omega, hl2, by rw [show dfs ((⟨entry args, M⟩ : St).s DID) = [] from entry_dfs (fun a ha l e => by subst e; exact hd2 _ ha l rfl)]; rfl, fun i hi => hi.1⟩
    simp only [entry, List.getD_eq_getElem?_getD] at hi
    cases hx : args[t]? with
    | none => rw [hx] at hi; simp [A.ids] at hi
    | some a => rw [hx] at hi; exact hids a (List.mem_of_getElem? hx) i hi
  refine wp_mono (hW hWF _ rfl _ w h0) ?_
  rintro e a' w' ⟨st', ⟨he, hres⟩, ⟨⟨B', I', hm', hx', hkp', hs'⟩, -, -, -, hds, -⟩⟩
  have hand : ∀ (w2 : World) (B2 : Nat → Value) (I2 : Nat → Nat → Prop), MR w0 I0 B2 I2 M' w2 → Ext w w2 I I2 → (∀ j, (M j).isSome = true → j ∉ D → B2 j = B j) →
      ∃ v, (results fn a'.tmps).run P w2 = .ok v w2 ∧ ∃ v' B' I', Ending.returned v = .returned v' ∧ MR w0 I0 B' I' M' w2 ∧ Ext w w2 I I' ∧ (∀ j, (M j).isSome = true → j ∉ D → B' j = B j) ∧ RV B' w2 I' (.tup []) v' := by
    intro w2 B2 I2 hm2 hx2 hk2
    obtain ⟨v, h1, h2⟩ := resE_snd (st := ⟨fun _ => .top, M'⟩) (r := .tup []) hT hm2 (fun t => by trivial) hl rfl
    exact ⟨v, h1, v, B2, I2, rfl, hm2, hx2, hk2, h2⟩
  rcases hres with ⟨hdn, hle2⟩ | ⟨v1, v2, M1, hdn, hp1, hp2, hle2, hw1, hsub1, -, hsm, hwm1, hcall⟩
  · rw [hdn] at hds
    have hds : a'.defers = [] := hds
    have key := hand w' B' I' (mle_mr hm' hle2 (hwm hWF)) hx' (fun j hj hd => hkp' j ⟨hj, hd⟩)
    rcases he with rfl | rfl <;> (show Leaves _ _ _ _ _ _ _; rw [hds]; exact key)
  · rw [hdn] at hds
    have hds : a'.defers = [{ target := .fn (.func g) #[], args := #[v1, v2] }] := hds
    have hm1 := mle_mr hm' hle2 hw1
    have q1 := hs' (DID + 1)
    rw [hp1] at q1
    obtain ⟨b0, k1, k2⟩ := q1
    have q2 := hs' (DID + 2)
    rw [hp2] at q2
    have key2 : Leaves P fn a'.tmps (fun e w' => ∃ v B' I', e = .returned v ∧ MR w0 I0 B' I' M' w' ∧ Ext w w' I I' ∧ (∀ j, (M j).isSome = true → j ∉ D → B' j = B j) ∧ RV B' w' I' (.tup []) v) a'.defers .returning w' := by
      rw [hds]
      refine leaves_cons (by simp) (hinv v1 v2 w') (CallsD.mono (hcall w0 I0 B' I' w' [v1, v2] .returning hm1 ⟨⟨b0, k1, k2⟩, q2, trivial⟩) ?_)
      rintro e u' w'' ⟨rfl, v, B2, I2, rfl, hm2, hx2, hk2⟩
      exact hand w'' B2 I2 hm2 (hx'.trans hx2) (fun j hj hd => (hk2 j (hsub1 j hj) hd).trans (hkp' j ⟨hj, hd⟩))
    rcases he with rfl | rfl <;> exact key2
end V
end Go.Proofs.YtbmbmcdaabhgnaaDoor
end
section
set_option linter.unusedVariables false
set_option linter.unusedSimpArgs false
namespace Go.Proofs.YtbmbmcdaabhgnaaDoor
namespace V
open Go.RowKit
def cShape (s : Shape) : List C := [.int .i64 s.least, .int .i64 s.most, .bool s.name, .int .i64 s.num, .int .i64 s.level, .str s.sign]
theorem shapeOf_any {p : Shape → Prop} (h0 : p noShape) (h : ∀ s ∈ shapes, p s) (k : Int) : p (shapeOf k).1 := by
  unfold shapeOf
  split
  · dsimp only
    rw [List.getD_eq_getElem?_getD]
    cases hx : shapes[(k - 1).toNat]? with
    | none => exact h0
    | some s => exact h s (List.mem_of_getElem? hx)
  · exact h0
theorem shape_wf (k : Int) : (Lit.int .i64 (shapeOf k).1.least).wf = true ∧ (Lit.int .i64 (shapeOf k).1.most).wf = true ∧ (Lit.int .i64 (shapeOf k).1.num).wf = true ∧ (Lit.int .i64 (shapeOf k).1.level).wf = true ∧ (shapeOf k).1.sign.size ≤ 4 := by
  refine shapeOf_any (p := fun s => (Lit.int .i64 s.least).wf = true ∧ (Lit.int .i64 s.most).wf = true ∧ (Lit.int .i64 s.num).wf = true ∧ (Lit.int .i64 s.level).wf = true ∧ s.sign.size ≤ 4) (by decide) (fun s hs => ?_) k
  revert s
  decide
theorem of_ok (k : Int) (m : Mem) : COk Tryd.prog 36 [.c (.int .i64 k)] m (.tup [(true, cShape (shapeOf k).1), (false, [.bool (shapeOf k).2])]) := by
  refine ⟨enters_of Tryd.func36 (by kernel_rfl) rfl, rfl, fun m' _ => ?_⟩
  intro w0 I0 B I w vals hm hv
  match vals, hv with
  | [v], ⟨h1, _⟩ =>
    cases h1
    refine (of_any k w).mono ?_
    rintro e w' ⟨rfl, hb⟩
    obtain ⟨s1, s2, s3, s4, s5⟩ := shape_wf k
    refine ⟨_, I, rfl, hb, fun _ _ k => k, fun _ _ k => .inl k, ?_⟩
    exact ⟨_, rfl, ⟨_, rfl, .int s1, .int s2, .bool, .int s3, .int s4, .str (Nat.le_trans s5 (by decide)), trivial⟩, ⟨_, rfl, .bool⟩, trivial⟩
theorem expr_ok (x : Expr) (m : Mem) : COk Tryd.prog 15 [.agg (cExpr x)] m (.c (.bool (exprB x))) := by
  refine ⟨enters_of Tryd.func15 (by kernel_rfl) rfl, rfl, fun m' _ => ?_⟩
  intro w0 I0 B I w vals hm hv
  match vals, hv with
  | [v], ⟨h1, _⟩ =>
    obtain ⟨us, rfl, h1⟩ := h1
    refine (expr_any (dExpr x) w us x hm.globNow.max (rcs_expr (fun b o k => hm.there b o k) _ (Nat.le_refl _) h1)).mono ?_
    rintro e w' ⟨rfl, hb⟩
    exact ⟨_, I, rfl, hb, fun _ _ k => k, fun _ _ k => .inl k, .bool⟩
theorem fmt_ok (n : Int) (m : Mem) : COk Tryd.prog 87 [.c (.int .i64 n), .c (.int .i64 10)] m (.c (.str ⟨(Lib.itoa n).toArray⟩)) := by
  refine ⟨enters_of Tryd.func87 (by kernel_rfl) rfl, rfl, fun m' _ => ?_⟩
  intro w0 I0 B I w vals hm hv
  match vals, hv with
  | [v, v2], ⟨h1, h2, _⟩ =>
    cases h1 with
    | int hn =>
    cases h2
    obtain ⟨q1, q2⟩ := lit_wf.1 hn
    have q1 : -9223372036854775808 ≤ n := q1
    have q2 : n ≤ 9223372036854775807 := q2
    have q3 := Lib.itoa_length_le n q1 q2
    refine (Tryd.internal_strconv_FormatInt_10 n q1 q2 w hm.globNow.tens).mono ?_
    rintro e w' ⟨rfl, k, os, rfl⟩
    exact ⟨_, I, rfl, Lib.below_grow _ _ (Nat.le_refl _) _ _, fun _ _ k => k, fun _ _ k => .inl k, .str (Nat.le_trans (show (Lib.itoa n).toArray.size ≤ 21 by simpa using q3) (by decide))⟩
theorem fint_ok (n : Int) (m : Mem) : COk Tryd.prog 67 [.c (.int .i64 n), .c (.int .i64 10)] m (.c (.str ⟨(Lib.itoa n).toArray⟩)) := by
  refine (ok_pure tab_ok Tryd.func67 (by kernel_rfl) rfl rfl (by rfl) (by rfl) (by rfl) (fun R hkeep => ?_) m)
  repeat (first | refine W.seq ?_ | refine W.block ?_ | refine W.skip ?_ | refine W.exit ?_ | refine W.region tab_ok 0 (by decide) (exec_run (by simp only [exa, beq_self_eq_true, ByteArray.size, Nat.reduceAdd, Nat.reduceLeDiff, Nat.reduceEqDiff, Nat.reduceMul, Int.reduceToNat, reduceIte, Int.reduceLE, Int.reduceNeg]; rfl)) ?_)
  refine W.regionK tab_ok 0 (by decide) ?_
  refine runk_split 2 (by simp only [exa, beq_self_eq_true, ByteArray.size, Nat.reduceAdd, Nat.reduceLeDiff, Nat.reduceEqDiff, Nat.reduceMul, Int.reduceToNat, reduceIte, Int.reduceLE, Int.reduceNeg]; rfl) ?_
  refine runk_call rfl rfl rfl rfl rfl (by simp) (cvs_cons cv_refl (cvs_cons cv_refl cvs_nil)) (fmt_ok n _) ?_
  refine runk_exec (by simp only [exa, beq_self_eq_true, ByteArray.size, Nat.reduceAdd, Nat.reduceLeDiff, Nat.reduceEqDiff, Nat.reduceMul, Int.reduceToNat, reduceIte, Int.reduceLE, Int.reduceNeg]; rfl) ?_
  repeat (first | refine W.seq ?_ | refine W.block ?_ | refine W.skip ?_ | refine W.exit ?_ | refine W.region tab_ok 0 (by decide) (exec_run (by simp only [exa, beq_self_eq_true, ByteArray.size, Nat.reduceAdd, Nat.reduceLeDiff, Nat.reduceEqDiff, Nat.reduceMul, Int.reduceToNat, reduceIte, Int.reduceLE, Int.reduceNeg]; rfl)) ?_)
  refine W.ret ⟨.inr rfl, by rfl, ?_⟩
  simp only [Tryd.f67, resA, resOne, toT, fin, exa, beq_self_eq_true, ByteArray.size, Nat.reduceAdd, Nat.reduceLeDiff, Nat.reduceEqDiff, Nat.reduceMul, Int.reduceToNat, reduceIte, Int.reduceLE, Int.reduceNeg]
theorem num_ok (n : Int) (m : Mem) : COk Tryd.prog 39 [.c (.int .i64 n)] m (.c (.str ⟨(Lib.itoa n).toArray⟩)) := by
  refine (ok_pure tab_ok Tryd.func39 (by kernel_rfl) rfl rfl (by rfl) (by rfl) (by rfl) (fun R hkeep => ?_) m)
  repeat (first | refine W.seq ?_ | refine W.block ?_ | refine W.skip ?_ | refine W.exit ?_ | refine W.region tab_ok 0 (by decide) (exec_run (by simp only [exa, beq_self_eq_true, ByteArray.size, Nat.reduceAdd, Nat.reduceLeDiff, Nat.reduceEqDiff, Nat.reduceMul, Int.reduceToNat, reduceIte, Int.reduceLE, Int.reduceNeg]; rfl)) ?_)
  refine W.regionK tab_ok 0 (by decide) ?_
  refine runk_split 1 (by simp only [exa, beq_self_eq_true, ByteArray.size, Nat.reduceAdd, Nat.reduceLeDiff, Nat.reduceEqDiff, Nat.reduceMul, Int.reduceToNat, reduceIte, Int.reduceLE, Int.reduceNeg]; rfl) ?_
  refine runk_call rfl rfl rfl rfl rfl (by simp) (cvs_cons cv_refl (cvs_cons cv_refl cvs_nil)) (fint_ok n _) ?_
  refine runk_exec (by simp only [exa, beq_self_eq_true, ByteArray.size, Nat.reduceAdd, Nat.reduceLeDiff, Nat.reduceEqDiff, Nat.reduceMul, Int.reduceToNat, reduceIte, Int.reduceLE, Int.reduceNeg]; rfl) ?_
  repeat (first | refine W.seq ?_ | refine W.block ?_ | refine W.skip ?_ | refine W.exit ?_ | refine W.region tab_ok 0 (by decide) (exec_run (by simp only [exa, beq_self_eq_true, ByteArray.size, Nat.reduceAdd, Nat.reduceLeDiff, Nat.reduceEqDiff, Nat.reduceMul, Int.reduceToNat, reduceIte, Int.reduceLE, Int.reduceNeg]; rfl)) ?_)
  refine W.ret ⟨.inr rfl, by rfl, ?_⟩
  simp only [Tryd.f39, resA, resOne, toT, fin, exa, beq_self_eq_true, ByteArray.size, Nat.reduceAdd, Nat.reduceLeDiff, Nat.reduceEqDiff, Nat.reduceMul, Int.reduceToNat, reduceIte, Int.reduceLE, Int.reduceNeg]
end V
end Go.Proofs.YtbmbmcdaabhgnaaDoor
end
section
namespace Go.Proofs.YtbmbmcdaabhgnaaDoor
namespace V
open Go.RowKit
theorem W.seqJoin {P : Go.Program} {R : Ref} {n : Nat} {ds : List Deferred} {st : St} {x y : Code} {K : Exit → St → Prop} {ι : Type} (mk : ι → St) (Q : ι → Prop)
    (h : W P R n ds st x (fun e st' => e = .normal ∧ ∀ c K', (∀ i, Q i → W P R n ds (mk i) c K') → W P R n ds st' c K')) (k : ∀ i, Q i → W P R n ds (mk i) y K) : W P R n ds st (.seq x y) K := by
  refine W.seq ?_
  refine W.mono h ?_
  rintro e st' ⟨rfl, h2⟩
  exact h2 y K k
end V
end Go.Proofs.YtbmbmcdaabhgnaaDoor
end
section
set_option linter.unusedVariables false
set_option linter.unusedSimpArgs false
namespace Go.Proofs.YtbmbmcdaabhgnaaDoor
namespace V
open Go.RowKit
section
variable {M1 : Mem} {j q : Nat} {u0 : Bool} {t : Int} {bs0 : List UInt8}
theorem layU_ne {u : Bool} {l : List ByteArray} (h : l ≠ []) : layU u l = true := by
  cases l with
  | nil => exact absurd rfl h
  | cons a l => simp [layU]
theorem layM (h : PgAt M1 j q u0 t bs0) (u : Bool) (bs : List UInt8) (l : List ByteArray) (hl : l ≠ []) (hl2 : l.length ≤ 3) (hs : bs.length + (txtB l).length ≤ 140737488355328) :
    CallE Tryd.prog 23 [.ptr j 0, .c (.sl (l.map cStr))] (pgM M1 j q u t bs) [q] (.tup []) (pgM M1 j q true t (bs ++ txtB l)) := by
  have := lay_ok (h.pgM (u' := u) (t' := t) (bs' := bs)) l (by omega) hs
  rwa [pgM_pgM h.ne, layU_ne hl] at this
theorem exprM (h : PgAt M1 j q u0 t bs0) {b : Nat} (hM : ∀ d, M1 (b + d) = none) {x : Expr} (hx : ExprAt x) (u : Bool) (bs : List UInt8) (want : Int) (hs : bs.length + (exprX x want).length ≤ 140737488355328) :
    CallE Tryd.prog 16 [.ptr j 0, .agg (cExpr x), .c (.int .i64 want)] (pgM M1 j q u t bs) [q] (.tup []) (pgM M1 j q true t (bs ++ exprX x want)) := by
  have := hx _ j q u t bs b want h.pgM (fun d => pgM_none h (hM d)) hs
  rwa [pgM_pgM h.ne] at this
theorem listM (h : PgAt M1 j q u0 t bs0) {b : Nat} (hM : ∀ d, M1 (b + d) = none) {l : List Expr} (hx : ∀ x ∈ l, ExprAt x) (hl : l.length ≤ 1000000000) (u : Bool) (bs : List UInt8) (e : ByteArray) (hs : bs.length + (listE l).length + e.size ≤ 140737488355328) :
    CallE Tryd.prog 40 [.ptr j 0, .c (.sl (cExprs l)), .c (.str e)] (pgM M1 j q u t bs) [q] (.tup []) (pgM M1 j q true t (bs ++ listE l ++ e.data.toList)) := by
  rw [cExprs_map]
  have := list_ok (h.pgM (u' := u) (t' := t) (bs' := bs)) (fun d => pgM_none h (hM d)) l hx e hl hs
  rwa [pgM_pgM h.ne] at this
def Keeps (j : Nat) (s s' : Nat → A) : Prop := dfs (s' DID) = dfs (s DID) ∧ (∀ v, s (DID + 1) = .pinP v j 0 → s' (DID + 1) = .pinP v j 0) ∧ ∀ v z, s (DID + 2) = .pinC v z → s' (DID + 2) = .pinC v z
theorem keeps_refl (s : Nat → A) : Keeps j s s := ⟨rfl, fun _ h => h, fun _ _ h => h⟩
theorem keeps_upd {s s' : Nat → A} {i : Nat} {a : A} (hi : i < DID) (h : Keeps j s s') : Keeps j s (upd s' i a) := by
  obtain ⟨h1, h2, h3⟩ := h
  refine ⟨?_, fun v hv => ?_, fun v z hv => ?_⟩
  · rw [upd_ne _ _ (Nat.ne_of_gt hi)]; exact h1
  · rw [upd_ne _ _ (Nat.ne_of_gt (Nat.lt_succ_of_lt hi))]; exact h2 v hv
  · rw [upd_ne _ _ (Nat.ne_of_gt (Nat.lt_succ_of_lt (Nat.lt_succ_of_lt hi)))]; exact h3 v z hv
theorem keeps_kill {s s' : Nat → A} (hne : j ≠ q) (h : Keeps j s s') : Keeps j s (killS q s') := by
  obtain ⟨h1, h2, h3⟩ := h
  refine ⟨(killL_dfs [q] s').trans h1, fun v hv => ?_, fun v z hv => ?_⟩
  · rw [killS_app, h2 v hv]; simp [A.kill, hne]
  · rw [killS_app, h3 v z hv]; rfl
end
theorem rows4 : ∀ (l : List Expr), ∀ x ∈ cExprs l, x.length = 4
  | [], x, h => by simp [cExprs] at h
  | y :: l, x, h => by
    simp only [cExprs, List.mem_cons] at h
    rcases h with rfl | h
    · cases y; rfl
    · exact rows4 l x h
theorem len5 {kids : List Expr} (h1 : (1 : Int) ≤ (kids.length : Int)) (h2 : (kids.length : Int) ≤ 5) : ∃ y r, kids = y :: r ∧ r.length ≤ 100 := by
  match kids, h1 with
  | y :: r, _ => exact ⟨y, r, rfl, by simp at h2; omega⟩
theorem len1 {kids : List Expr} (h1 : (1 : Int) ≤ (kids.length : Int)) (h2 : (kids.length : Int) ≤ 1) : ∃ y, kids = [y] := by
  match kids, (by omega : kids.length = 1) with
  | [y], _ => exact ⟨y, rfl⟩
theorem len2' {kids : List Expr} (h1 : (2 : Int) ≤ (kids.length : Int)) (h2 : (kids.length : Int) ≤ 2) : ∃ y y2, kids = [y, y2] := by
  match kids, (by omega : kids.length = 2) with
  | [y, y2], _ => exact ⟨y, y2, rfl⟩
theorem exprX_of (x : Expr) (want : Int) : exprX x want = if levX x.kind < want then 40 :: (textX x ++ [41]) else textX x := rfl
set_option maxHeartbeats 4000000 in
theorem expr_at : ∀ (z : Nat) (x : Expr), SizeOf.sizeOf x ≤ z → exprB x = true → ExprAt x := by
  intro z
  induction z using Nat.strongRecOn with
  | ind z ih =>
  intro x hz hx M j q u t bs b want h hM hs
  obtain ⟨k, n, nm, kids⟩ := x
  rw [exprB_eq] at hx
  obtain ⟨htop, hkids⟩ := Bool.and_eq_true_iff.1 hx
  have hE : ∀ y ∈ kids, ExprAt y := fun y hy => ih (SizeOf.sizeOf y) (by
    have h1 := List.sizeOf_lt_of_mem hy
    have h2 := Expr.mk.sizeOf_spec k n nm kids
    omega) y (Nat.le_refl _) (List.all_eq_true.1 hkids y hy)
  rw [exprTop_eq] at htop
  simp only [Bool.and_eq_true, decide_eq_true_eq] at htop
  obtain ⟨⟨⟨⟨⟨hkk, hlo⟩, hhi⟩, hn0⟩, hn1⟩, hnm⟩ := htop
  have hkr : 1 ≤ k ∧ k ≤ 18 := by
    by_cases hk : 1 ≤ k ∧ k ≤ 18
    · exact hk
    · unfold shapeOf at hkk; rw [if_neg hk] at hkk; cases hkk
  have hjs : (M j).isSome = true := by rw [h.box]; rfl
  have hqs : (M q).isSome = true := by rw [h.row]; rfl
  have bj : ∀ d, j ≠ b + d := fun d k => by have := hM d; rw [← k] at this; rw [this] at hjs; cases hjs
  have bq : ∀ d, q ≠ b + d := fun d k => by have := hM d; rw [← k] at this; rw [this] at hqs; cases hqs
  have hpM : ∀ {l : List ByteArray}, l ≠ [] → True := fun _ => trivial
  refine (ok_effT tab_ok [q] (j := j) (g := 23) (z := .sl [[.str ⟨#[41]⟩]]) (fun v1 v2 w => by simp [invoke]) Tryd.func16 (by kernel_rfl) rfl rfl (by rfl) (by rfl) ?ids pgM_live (pgM_wf h) (fun hWF Rr hkeep => ?_))
  case ids => intro a ha i hi; simp at ha; rcases ha with rfl | rfl | rfl <;> simp [A.ids] at hi; subst hi; exact hjs
  have nkq : ¬ Rr.keep q := by rw [hkeep]; intro hh; exact hh.2 (by simp)
  have jq : (j = q) = False := eq_false h.ne
  have b4q : (b + 4 = q) = False := eq_false (Ne.symm (bq 4))
  have b6q : (b + 6 = q) = False := eq_false (Ne.symm (bq 6))
  have hM4 := hM 4
  have hM6 := hM 6
  repeat (first | refine W.seq ?_ | refine W.block ?_ | refine W.skip ?_ | refine W.exit ?_ | refine W.region tab_ok b (by decide) (exec_run (by simp only [exa, beq_self_eq_true, ByteArray.size, Nat.reduceAdd, Nat.reduceLeDiff, Nat.reduceEqDiff, Nat.reduceMul, Int.reduceToNat, reduceIte, Int.reduceLE, Int.reduceNeg, cExpr, hM4]; rfl)) ?_)
  (repeat (first | refine W.seq ?_ | refine W.block ?_ | refine W.skip ?_))
  refine W.regionK tab_ok b (by decide) ?_
  refine runk_split 2 (by simp only [exa, beq_self_eq_true, ByteArray.size, Nat.reduceAdd, Nat.reduceLeDiff, Nat.reduceEqDiff, Nat.reduceMul, Int.reduceToNat, reduceIte, Int.reduceLE, Int.reduceNeg, upd_same, cExpr]; rfl) ?_
  refine runk_call rfl rfl rfl rfl rfl (by simp) (cvs_cons cv_refl cvs_nil) (of_ok k _) ?_
  refine runk_exec (by simp only [exa, beq_self_eq_true, ByteArray.size, Nat.reduceAdd, Nat.reduceLeDiff, Nat.reduceEqDiff, Nat.reduceMul, Int.reduceToNat, reduceIte, Int.reduceLE, Int.reduceNeg, hM6, cShape, upd_same, Nat.add_left_cancel_iff]; rfl) ?_
  simp only [upd_upd]
  obtain ⟨M1, hM1⟩ : ∃ M1, M1 = upd (upd M (b + 4) (some (.box 24 [.c (.int .i64 k), .c (.int .i64 n), .c (.str nm), .c (.sl (cExprs kids))]))) (b + 6) (some (.box 75 [.c (.int .i64 (shapeOf k).1.least), .c (.int .i64 (shapeOf k).1.most), .c (.bool (shapeOf k).1.name), .c (.int .i64 (shapeOf k).1.num), .c (.int .i64 (shapeOf k).1.level), .c (.str (shapeOf k).1.sign)])) := ⟨_, rfl⟩
  rw [← hM1]
  have m4 : M1 (b + 4) = some (.box 24 [.c (.int .i64 k), .c (.int .i64 n), .c (.str nm), .c (.sl (cExprs kids))]) := by rw [hM1, upd_ne _ _ (by omega), upd_same]
  have m6 : M1 (b + 6) = some (.box 75 [.c (.int .i64 (shapeOf k).1.least), .c (.int .i64 (shapeOf k).1.most), .c (.bool (shapeOf k).1.name), .c (.int .i64 (shapeOf k).1.num), .c (.int .i64 (shapeOf k).1.level), .c (.str (shapeOf k).1.sign)]) := by rw [hM1, upd_same]
  have h1 : PgAt M1 j q u t bs := by
    rw [hM1]
    exact (h.new hM4 rfl).new (by rw [upd_ne _ _ (by omega)]; exact hM6) rfl
  have f1 : ∀ d, M1 (b + 7 + d) = none := fun d => by
    rw [hM1, upd_ne _ _ (by omega), upd_ne _ _ (by omega), Nat.add_assoc]; exact hM _
  have off : ∀ (u' : Bool) (bs' : List UInt8), MLe (pgM M1 j q u' t bs') (pgM M j q u' t bs') := fun u' bs' => by
    rw [hM1, pgM_upd (bj 6) (bq 6), pgM_upd (bj 4) (bq 4)]
    intro i
    rcases mle_off (m := pgM M j q u' t bs') (o := .box 24 [.c (.int .i64 k), .c (.int .i64 n), .c (.str nm), .c (.sl (cExprs kids))]) (pgM_none h hM4) i with e | e
    · exact .inl e
    rcases mle_off (m := upd (pgM M j q u' t bs') (b + 4) (some (.box 24 [.c (.int .i64 k), .c (.int .i64 n), .c (.str nm), .c (.sl (cExprs kids))]))) (o := .box 75 [.c (.int .i64 (shapeOf k).1.least), .c (.int .i64 (shapeOf k).1.most), .c (.bool (shapeOf k).1.name), .c (.int .i64 (shapeOf k).1.num), .c (.int .i64 (shapeOf k).1.level), .c (.str (shapeOf k).1.sign)]) (show upd (pgM M j q u' t bs') (b + 4) _ (b + 6) = none by rw [upd_ne _ _ (by omega)]; exact pgM_none h hM6) i with e2 | e2
    · exact .inl (e.trans e2)
    · exact .inr (e.trans e2)
  have hm4 : ∀ u' bs', pgM M1 j q u' t bs' (b + 4) = some (.box 24 [.c (.int .i64 k), .c (.int .i64 n), .c (.str nm), .c (.sl (cExprs kids))]) := fun u' bs' => by
    unfold pgM; rw [upd_ne _ _ (Ne.symm (bq 4)), upd_ne _ _ (Ne.symm (bj 4)), m4]
  have hm6 : ∀ u' bs', pgM M1 j q u' t bs' (b + 6) = some (.box 75 [.c (.int .i64 (shapeOf k).1.least), .c (.int .i64 (shapeOf k).1.most), .c (.bool (shapeOf k).1.name), .c (.int .i64 (shapeOf k).1.num), .c (.int .i64 (shapeOf k).1.level), .c (.str (shapeOf k).1.sign)]) := fun u' bs' => by
    unfold pgM; rw [upd_ne _ _ (Ne.symm (bq 6)), upd_ne _ _ (Ne.symm (bj 6)), m6]
  have hsame : pgM M1 j q u t bs = M1 := pgM_same h1
  clear hM1
  have hll : (levX k < want) ∨ ¬ (levX k < want) := Classical.em _
  refine W.seqJoin (ι := (Nat → A) × Bool × List UInt8) (fun i => ⟨i.1, pgM M1 j q i.2.1 t i.2.2⟩)
    (fun i => i.1 0 = .ptr j 0 ∧ i.1 4 = .ptr (b + 4) 0 ∧ i.1 6 = .ptr (b + 6) 0 ∧ ((¬ levX k < want ∧ i.2.1 = u ∧ i.2.2 = bs ∧ dfs (i.1 DID) = []) ∨
      (levX k < want ∧ i.2.1 = true ∧ i.2.2 = bs ++ [40] ∧ ∃ v1 v2, dfs (i.1 DID) = [{ target := .fn (.func 23) #[], args := #[v1, v2] }] ∧ i.1 (DID + 1) = .pinP v1 j 0 ∧ i.1 (DID + 2) = .pinC v2 (.sl [[.str ⟨#[41]⟩]])))) ?first ?rest
  case first =>
    repeat (first | refine W.seq ?_ | refine W.block ?_ | refine W.skip ?_ | refine W.exit ?_ | refine W.region tab_ok b (by decide) (exec_run (by simp only [exa, beq_self_eq_true, ByteArray.size, Nat.reduceAdd, Nat.reduceLeDiff, Nat.reduceEqDiff, Nat.reduceMul, Int.reduceToNat, reduceIte, Int.reduceLE, Int.reduceNeg, m6]; rfl)) ?_)
    refine W.cond rfl ?_ ?_
    · intro hlt
      simp only [decide_eq_true_eq] at hlt
      have hlt' : levX k < want := hlt
      have hX := exprX_of ⟨k, n, nm, kids⟩ want
      rw [if_pos hlt'] at hX
      have hlen := congrArg List.length hX
      simp only [List.length_cons, List.length_append, List.length_nil] at hlen
      have hl := layM h1 u bs [⟨#[40]⟩] (by simp) (by decide) (by simp [txtB]; omega)
      rw [hsame] at hl
      (repeat (first | refine W.seq ?_ | refine W.block ?_ | refine W.skip ?_))
      refine W.regionK tab_ok b (by decide) ?_
      refine runk_split 2 (by simp only [exa, beq_self_eq_true, ByteArray.size, Nat.reduceAdd, Nat.reduceLeDiff, Nat.reduceEqDiff, Nat.reduceMul, Int.reduceToNat, reduceIte, Int.reduceLE, Int.reduceNeg]; rfl) ?_
      refine runk_callE (D := [q]) rfl rfl rfl rfl rfl (fun i hi => by simp at hi; subst hi; exact nkq) (by simp) (cvs_cons cv_refl (cvs_cons cv_refl cvs_nil)) hl ?_
      simp only [killL, putS]
      refine runk_exec (by simp only [exa, beq_self_eq_true, ByteArray.size, Nat.reduceAdd, Nat.reduceLeDiff, Nat.reduceEqDiff, Nat.reduceMul, Int.reduceToNat, reduceIte, Int.reduceLE, Int.reduceNeg]; rfl) ?_
      (repeat (first | refine W.seq ?_ | refine W.block ?_ | refine W.skip ?_))
      refine W.deferAt tab_ok b 2 (by decide) rfl rfl (by simp only [exa, beq_self_eq_true, ByteArray.size, Nat.reduceAdd, Nat.reduceLeDiff, Nat.reduceEqDiff, Nat.reduceMul, Int.reduceToNat, reduceIte, Int.reduceLE, Int.reduceNeg, killS_app, A.kill, jq, if_false]; rfl) rfl rfl rfl rfl rfl (j := j) (z := .sl [[.str ⟨#[41]⟩]]) (by simp only [exa, beq_self_eq_true, ByteArray.size, Nat.reduceAdd, Nat.reduceLeDiff, Nat.reduceEqDiff, Nat.reduceMul, Int.reduceToNat, reduceIte, Int.reduceLE, Int.reduceNeg, killS_app, A.kill, jq, if_false]) (by exact pgM_live _ (by rw [h1.box]; rfl)) (by simp only [exa, beq_self_eq_true, ByteArray.size, Nat.reduceAdd, Nat.reduceLeDiff, Nat.reduceEqDiff, Nat.reduceMul, Int.reduceToNat, reduceIte, Int.reduceLE, Int.reduceNeg]) ?_
      intro v1 v2
      refine ⟨rfl, fun c K' hk => ?_⟩
      generalize hd : dfr _ _ v1 v2 j _ = sd
      refine hk ⟨sd, true, bs ++ [40]⟩ ⟨?_, ?_, ?_, .inr ⟨hlt', rfl, rfl, v1, v2, ?_, ?_, ?_⟩⟩
      · show sd _ = _; rw [← hd, dfr_lt (by decide)]; simp only [upd_app, killS_app, entry_zero, A.kill, jq, if_false, Nat.reduceEqDiff, reduceIte]
      · show sd _ = _; rw [← hd, dfr_lt (by decide)]; simp only [upd_app, killS_app, A.kill, jq, b4q, if_false, Nat.reduceEqDiff, reduceIte]
      · show sd _ = _; rw [← hd, dfr_lt (by decide)]; simp only [upd_app, killS_app, A.kill, jq, b6q, if_false, Nat.reduceEqDiff, reduceIte]
      · show dfs (sd _) = _; rw [← hd, dfr_DID]; rfl
      · show sd _ = _; rw [← hd]; exact dfr_1
      · show sd _ = _; rw [← hd]; exact dfr_2
    · intro hge
      simp only [decide_eq_false_iff_not] at hge
      have hge' : ¬ levX k < want := hge
      refine W.skip ?_
      refine ⟨rfl, fun c K' hk => ?_⟩
      rw [← hsame]
      exact hk ⟨_, u, bs⟩ ⟨rfl, rfl, rfl, .inl ⟨hge', rfl, rfl, by rfl⟩⟩
  case rest =>
    rintro ⟨s0, u', bs'⟩ ⟨h0, h4, h6, hQ⟩
    dsimp only at h0 h4 h6 hQ ⊢
    have hfit : bs'.length + (textX ⟨k, n, nm, kids⟩).length ≤ 140737488355328 := by
      have hX := exprX_of ⟨k, n, nm, kids⟩ want
      rcases hQ with ⟨hl, -, rfl, -⟩ | ⟨hl, -, rfl, -⟩
      · rw [if_neg hl] at hX; rw [hX] at hs; exact hs
      · rw [if_pos hl] at hX; rw [hX] at hs
        simp only [List.length_cons, List.length_append, List.length_nil] at hs ⊢; omega
    have fin : ∀ (s' : Nat → A) (Bf : List UInt8), Bf = bs' ++ textX ⟨k, n, nm, kids⟩ → Keeps j s0 s' → ((Exit.normal = Exit.normal ∨ Exit.normal = Exit.ret) ∧
      ((dfs (s' DID) = [] ∧ MLe (pgM M1 j q true t Bf) (pgM M j q true t (bs ++ exprX ⟨k, n, nm, kids⟩ want))) ∨
       ∃ v1 v2 M2, dfs (s' DID) = [{ target := .fn (.func 23) #[], args := #[v1, v2] }] ∧ s' (DID + 1) = .pinP v1 j 0 ∧ s' (DID + 2) = .pinC v2 (.sl [[.str ⟨#[41]⟩]]) ∧ MLe (pgM M1 j q true t Bf) M2 ∧ WFm M2 ∧ (∀ i, (M i).isSome = true → (M2 i).isSome = true) ∧ CallDf Tryd.prog 23 [.ptr j 0, .c (.sl [[.str ⟨#[41]⟩]])] M2 [q] (pgM M j q true t (bs ++ exprX ⟨k, n, nm, kids⟩ want)))) := by
      rintro s' Bf rfl ⟨e1, e2, e3⟩
      have hX := exprX_of ⟨k, n, nm, kids⟩ want
      refine ⟨.inl rfl, ?_⟩
      rcases hQ with ⟨hl, -, rfl, hd⟩ | ⟨hl, -, rfl, v1, v2, hd, hp1, hp2⟩
      · rw [if_neg hl] at hX
        rw [hX]
        exact .inl ⟨e1.trans hd, off _ _⟩
      · rw [if_pos hl] at hX
        rw [hX] at hs ⊢
        simp only [List.length_cons, List.length_append, List.length_nil] at hs
        refine .inr ⟨v1, v2, pgM M j q true t (bs ++ [40] ++ textX ⟨k, n, nm, kids⟩), e1.trans hd, e2 _ hp1, e3 _ _ hp2, off _ _, pgM_wf h hWF, fun i hi => pgM_live i hi, ?_⟩
        have hl := lay_df (h.pgM (u' := true) (t' := t) (bs' := bs ++ [40] ++ textX ⟨k, n, nm, kids⟩)) [⟨#[41]⟩] (by decide) (by simp [txtB]; omega)
        rw [pgM_pgM h.ne, layU_ne (by simp)] at hl
        have e : bs ++ [40] ++ textX ⟨k, n, nm, kids⟩ ++ txtB [(⟨#[41]⟩ : ByteArray)] = bs ++ 40 :: (textX ⟨k, n, nm, kids⟩ ++ [41]) := by simp [txtB]
        rw [e] at hl
        exact hl
    clear hQ off h hM
    have hcase : k = 1 ∨ k = 2 ∨ k = 3 ∨ k = 4 ∨ k = 5 ∨ k = 6 ∨ k = 7 ∨ k = 8 ∨ k = 9 ∨ k = 10 ∨ k = 11 ∨ k = 12 ∨ k = 13 ∨ k = 14 ∨ k = 15 ∨ k = 16 ∨ k = 17 ∨ k = 18 := by omega
    rcases hcase with rfl | rfl | rfl | rfl | rfl | rfl | rfl | rfl | rfl | rfl | rfl | rfl | rfl | rfl | rfl | rfl | rfl | rfl
    · -- Lit
      have hT : textX ⟨1, n, nm, kids⟩ = Lib.itoa n := by simp [textX, bodyX]
      rw [hT] at hfit fin
      repeat (first | refine W.seq ?_ | refine W.block ?_ | refine W.skip ?_ | refine W.exit ?_ | refine W.region tab_ok b (by decide) (exec_run (by simp only [exa, beq_self_eq_true, ByteArray.size, Nat.reduceAdd, Nat.reduceLeDiff, Nat.reduceEqDiff, Nat.reduceMul, Int.reduceToNat, reduceIte, Int.reduceLE, Int.reduceNeg, h0, h4, h6, hm4, hm6]; rfl)) ?_)
      refine W.cond rfl (fun _ => ?_) (fun h => absurd h (by decide))
      (repeat (first | refine W.seq ?_ | refine W.block ?_ | refine W.skip ?_))
      refine W.regionK tab_ok b (by decide) ?_
      refine runk_split 3 (by simp only [exa, beq_self_eq_true, ByteArray.size, Nat.reduceAdd, Nat.reduceLeDiff, Nat.reduceEqDiff, Nat.reduceMul, Int.reduceToNat, reduceIte, Int.reduceLE, Int.reduceNeg, killS_app, A.kill, jq, b4q, b6q, if_false, h0, h4, h6, hm4, hm6, cExpr, cShape]; rfl) ?_
      refine runk_call rfl rfl rfl rfl rfl (by simp) (cvs_cons cv_refl cvs_nil) (num_ok n _) ?_
      refine runk_split 1 (by simp only [exa, beq_self_eq_true, ByteArray.size, Nat.reduceAdd, Nat.reduceLeDiff, Nat.reduceEqDiff, Nat.reduceMul, Int.reduceToNat, reduceIte, Int.reduceLE, Int.reduceNeg, killS_app, A.kill, jq, b4q, b6q, if_false, h0, h4, h6, hm4, hm6, cExpr, cShape]; rfl) ?_
      refine runk_callE (D := [q]) rfl rfl rfl rfl rfl (fun i hi => by simp at hi; subst hi; exact nkq) (by simp) (cvs_cons cv_refl (cvs_cons cv_refl cvs_nil)) (layM h1 u' bs' [⟨(Lib.itoa n).toArray⟩] (by simp) (Nat.le_of_ble_eq_true rfl) (by have hf := hfit; simp [txtB] at hf ⊢; omega)) ?_
      simp only [killL, putS]
      refine runk_exec (by simp only [exa, beq_self_eq_true, ByteArray.size, Nat.reduceAdd, Nat.reduceLeDiff, Nat.reduceEqDiff, Nat.reduceMul, Int.reduceToNat, reduceIte, Int.reduceLE, Int.reduceNeg]; rfl) ?_
      refine fin _ _ (by simp [txtB]) ?_
      repeat (first | exact keeps_refl _ | refine keeps_upd (by decide) ?_ | refine keeps_kill h1.ne ?_)
    · -- Null
      have hT : textX ⟨2, n, nm, kids⟩ = [110, 117, 108, 108] := by simp [textX, bodyX]
      rw [hT] at hfit fin
      repeat (first | refine W.seq ?_ | refine W.block ?_ | refine W.skip ?_ | refine W.exit ?_ | refine W.region tab_ok b (by decide) (exec_run (by simp only [exa, beq_self_eq_true, ByteArray.size, Nat.reduceAdd, Nat.reduceLeDiff, Nat.reduceEqDiff, Nat.reduceMul, Int.reduceToNat, reduceIte, Int.reduceLE, Int.reduceNeg, h0, h4, h6, hm4, hm6]; rfl)) ?_)
      iterate 1 (refine W.cond rfl (fun h => absurd h (by decide)) (fun _ => ?_); repeat (first | refine W.seq ?_ | refine W.block ?_ | refine W.skip ?_ | refine W.exit ?_ | refine W.region tab_ok b (by decide) (exec_run (by simp only [exa, beq_self_eq_true, ByteArray.size, Nat.reduceAdd, Nat.reduceLeDiff, Nat.reduceEqDiff, Nat.reduceMul, Int.reduceToNat, reduceIte, Int.reduceLE, Int.reduceNeg, h0, h4, h6, hm4, hm6]; rfl)) ?_))
      refine W.cond rfl (fun _ => ?_) (fun h => absurd h (by decide))
      (repeat (first | refine W.seq ?_ | refine W.block ?_ | refine W.skip ?_))
      refine W.regionK tab_ok b (by decide) ?_
      refine runk_split 2 (by simp only [exa, beq_self_eq_true, ByteArray.size, Nat.reduceAdd, Nat.reduceLeDiff, Nat.reduceEqDiff, Nat.reduceMul, Int.reduceToNat, reduceIte, Int.reduceLE, Int.reduceNeg, killS_app, A.kill, jq, b4q, b6q, if_false, h0, h4, h6, hm4, hm6, cExpr, cShape]; rfl) ?_
      refine runk_callE (D := [q]) rfl rfl rfl rfl rfl (fun i hi => by simp at hi; subst hi; exact nkq) (by simp) (cvs_cons cv_refl (cvs_cons cv_refl cvs_nil)) (layM h1 u' bs' [⟨#[110, 117, 108, 108]⟩] (by simp) (Nat.le_of_ble_eq_true rfl) (by have hf := hfit; simp [txtB] at hf ⊢; omega)) ?_
      simp only [killL, putS]
      refine runk_exec (by simp only [exa, beq_self_eq_true, ByteArray.size, Nat.reduceAdd, Nat.reduceLeDiff, Nat.reduceEqDiff, Nat.reduceMul, Int.reduceToNat, reduceIte, Int.reduceLE, Int.reduceNeg]; rfl) ?_
      refine fin _ _ (by simp [txtB]) ?_
      repeat (first | exact keeps_refl _ | refine keeps_upd (by decide) ?_ | refine keeps_kill h1.ne ?_)
    · -- This
      have hT : textX ⟨3, n, nm, kids⟩ = [116, 104, 105, 115] := by simp [textX, bodyX]
      rw [hT] at hfit fin
      repeat (first | refine W.seq ?_ | refine W.block ?_ | refine W.skip ?_ | refine W.exit ?_ | refine W.region tab_ok b (by decide) (exec_run (by simp only [exa, beq_self_eq_true, ByteArray.size, Nat.reduceAdd, Nat.reduceLeDiff, Nat.reduceEqDiff, Nat.reduceMul, Int.reduceToNat, reduceIte, Int.reduceLE, Int.reduceNeg, h0, h4, h6, hm4, hm6]; rfl)) ?_)
      iterate 2 (refine W.cond rfl (fun h => absurd h (by decide)) (fun _ => ?_); repeat (first | refine W.seq ?_ | refine W.block ?_ | refine W.skip ?_ | refine W.exit ?_ | refine W.region tab_ok b (by decide) (exec_run (by simp only [exa, beq_self_eq_true, ByteArray.size, Nat.reduceAdd, Nat.reduceLeDiff, Nat.reduceEqDiff, Nat.reduceMul, Int.reduceToNat, reduceIte, Int.reduceLE, Int.reduceNeg, h0, h4, h6, hm4, hm6]; rfl)) ?_))
      refine W.cond rfl (fun _ => ?_) (fun h => absurd h (by decide))
      (repeat (first | refine W.seq ?_ | refine W.block ?_ | refine W.skip ?_))
      refine W.regionK tab_ok b (by decide) ?_
      refine runk_split 2 (by simp only [exa, beq_self_eq_true, ByteArray.size, Nat.reduceAdd, Nat.reduceLeDiff, Nat.reduceEqDiff, Nat.reduceMul, Int.reduceToNat, reduceIte, Int.reduceLE, Int.reduceNeg, killS_app, A.kill, jq, b4q, b6q, if_false, h0, h4, h6, hm4, hm6, cExpr, cShape]; rfl) ?_
      refine runk_callE (D := [q]) rfl rfl rfl rfl rfl (fun i hi => by simp at hi; subst hi; exact nkq) (by simp) (cvs_cons cv_refl (cvs_cons cv_refl cvs_nil)) (layM h1 u' bs' [⟨#[116, 104, 105, 115]⟩] (by simp) (Nat.le_of_ble_eq_true rfl) (by have hf := hfit; simp [txtB] at hf ⊢; omega)) ?_
      simp only [killL, putS]
      refine runk_exec (by simp only [exa, beq_self_eq_true, ByteArray.size, Nat.reduceAdd, Nat.reduceLeDiff, Nat.reduceEqDiff, Nat.reduceMul, Int.reduceToNat, reduceIte, Int.reduceLE, Int.reduceNeg]; rfl) ?_
      refine fin _ _ (by simp [txtB]) ?_
      repeat (first | exact keeps_refl _ | refine keeps_upd (by decide) ?_ | refine keeps_kill h1.ne ?_)
    · -- Var
      have hT : textX ⟨4, n, nm, kids⟩ = nm.data.toList := by simp [textX, bodyX]
      rw [hT] at hfit fin
      repeat (first | refine W.seq ?_ | refine W.block ?_ | refine W.skip ?_ | refine W.exit ?_ | refine W.region tab_ok b (by decide) (exec_run (by simp only [exa, beq_self_eq_true, ByteArray.size, Nat.reduceAdd, Nat.reduceLeDiff, Nat.reduceEqDiff, Nat.reduceMul, Int.reduceToNat, reduceIte, Int.reduceLE, Int.reduceNeg, h0, h4, h6, hm4, hm6]; rfl)) ?_)
      iterate 3 (refine W.cond rfl (fun h => absurd h (by decide)) (fun _ => ?_); repeat (first | refine W.seq ?_ | refine W.block ?_ | refine W.skip ?_ | refine W.exit ?_ | refine W.region tab_ok b (by decide) (exec_run (by simp only [exa, beq_self_eq_true, ByteArray.size, Nat.reduceAdd, Nat.reduceLeDiff, Nat.reduceEqDiff, Nat.reduceMul, Int.reduceToNat, reduceIte, Int.reduceLE, Int.reduceNeg, h0, h4, h6, hm4, hm6]; rfl)) ?_))
      refine W.cond rfl (fun _ => ?_) (fun h => absurd h (by decide))
      (repeat (first | refine W.seq ?_ | refine W.block ?_ | refine W.skip ?_))
      refine W.regionK tab_ok b (by decide) ?_
      refine runk_split 4 (by simp only [exa, beq_self_eq_true, ByteArray.size, Nat.reduceAdd, Nat.reduceLeDiff, Nat.reduceEqDiff, Nat.reduceMul, Int.reduceToNat, reduceIte, Int.reduceLE, Int.reduceNeg, killS_app, A.kill, jq, b4q, b6q, if_false, h0, h4, h6, hm4, hm6, cExpr, cShape]; rfl) ?_
      refine runk_callE (D := [q]) rfl rfl rfl rfl rfl (fun i hi => by simp at hi; subst hi; exact nkq) (by simp) (cvs_cons cv_refl (cvs_cons cv_refl cvs_nil)) (layM h1 u' bs' [nm] (by simp) (Nat.le_of_ble_eq_true rfl) (by have hf := hfit; simp [txtB] at hf ⊢; omega)) ?_
      simp only [killL, putS]
      refine runk_exec (by simp only [exa, beq_self_eq_true, ByteArray.size, Nat.reduceAdd, Nat.reduceLeDiff, Nat.reduceEqDiff, Nat.reduceMul, Int.reduceToNat, reduceIte, Int.reduceLE, Int.reduceNeg]; rfl) ?_
      refine fin _ _ (by simp [txtB]) ?_
      repeat (first | exact keeps_refl _ | refine keeps_upd (by decide) ?_ | refine keeps_kill h1.ne ?_)
    · -- New
      have hT : textX ⟨5, n, nm, kids⟩ = [110, 101, 119, 32] ++ nm.data.toList ++ [40, 41] := by simp [textX, bodyX]
      rw [hT] at hfit fin
      repeat (first | refine W.seq ?_ | refine W.block ?_ | refine W.skip ?_ | refine W.exit ?_ | refine W.region tab_ok b (by decide) (exec_run (by simp only [exa, beq_self_eq_true, ByteArray.size, Nat.reduceAdd, Nat.reduceLeDiff, Nat.reduceEqDiff, Nat.reduceMul, Int.reduceToNat, reduceIte, Int.reduceLE, Int.reduceNeg, h0, h4, h6, hm4, hm6]; rfl)) ?_)
      iterate 4 (refine W.cond rfl (fun h => absurd h (by decide)) (fun _ => ?_); repeat (first | refine W.seq ?_ | refine W.block ?_ | refine W.skip ?_ | refine W.exit ?_ | refine W.region tab_ok b (by decide) (exec_run (by simp only [exa, beq_self_eq_true, ByteArray.size, Nat.reduceAdd, Nat.reduceLeDiff, Nat.reduceEqDiff, Nat.reduceMul, Int.reduceToNat, reduceIte, Int.reduceLE, Int.reduceNeg, h0, h4, h6, hm4, hm6]; rfl)) ?_))
      refine W.cond rfl (fun _ => ?_) (fun h => absurd h (by decide))
      (repeat (first | refine W.seq ?_ | refine W.block ?_ | refine W.skip ?_))
      refine W.regionK tab_ok b (by decide) ?_
      refine runk_split 4 (by simp only [exa, beq_self_eq_true, ByteArray.size, Nat.reduceAdd, Nat.reduceLeDiff, Nat.reduceEqDiff, Nat.reduceMul, Int.reduceToNat, reduceIte, Int.reduceLE, Int.reduceNeg, killS_app, A.kill, jq, b4q, b6q, if_false, h0, h4, h6, hm4, hm6, cExpr, cShape]; rfl) ?_
      refine runk_callE (D := [q]) rfl rfl rfl rfl rfl (fun i hi => by simp at hi; subst hi; exact nkq) (by simp) (cvs_cons cv_refl (cvs_cons cv_refl cvs_nil)) (layM h1 u' bs' [⟨#[110, 101, 119, 32]⟩, nm, ⟨#[40, 41]⟩] (by simp) (Nat.le_of_ble_eq_true rfl) (by have hf := hfit; simp [txtB] at hf ⊢; omega)) ?_
      simp only [killL, putS]
      refine runk_exec (by simp only [exa, beq_self_eq_true, ByteArray.size, Nat.reduceAdd, Nat.reduceLeDiff, Nat.reduceEqDiff, Nat.reduceMul, Int.reduceToNat, reduceIte, Int.reduceLE, Int.reduceNeg]; rfl) ?_
      refine fin _ _ (by simp [txtB]) ?_
      repeat (first | exact keeps_refl _ | refine keeps_upd (by decide) ?_ | refine keeps_kill h1.ne ?_)
    · -- NewArray
      obtain ⟨y, rfl⟩ : ∃ y, kids = [y] := len1 hlo hhi
      have hT : textX ⟨6, n, nm, [y]⟩ = [110, 101, 119, 32, 105, 110, 116, 91] ++ listE [y] ++ [93] := by rw [textX_eq, ← listX_eq]; rfl
      rw [hT] at hfit fin
      have hlen : [y].length ≤ 100 := by simp
      repeat (first | refine W.seq ?_ | refine W.block ?_ | refine W.skip ?_ | refine W.exit ?_ | refine W.region tab_ok b (by decide) (exec_run (by simp only [exa, beq_self_eq_true, ByteArray.size, Nat.reduceAdd, Nat.reduceLeDiff, Nat.reduceEqDiff, Nat.reduceMul, Int.reduceToNat, reduceIte, Int.reduceLE, Int.reduceNeg, h0, h4, h6, hm4, hm6]; rfl)) ?_)
      iterate 5 (refine W.cond rfl (fun h => absurd h (by decide)) (fun _ => ?_); repeat (first | refine W.seq ?_ | refine W.block ?_ | refine W.skip ?_ | refine W.exit ?_ | refine W.region tab_ok b (by decide) (exec_run (by simp only [exa, beq_self_eq_true, ByteArray.size, Nat.reduceAdd, Nat.reduceLeDiff, Nat.reduceEqDiff, Nat.reduceMul, Int.reduceToNat, reduceIte, Int.reduceLE, Int.reduceNeg, h0, h4, h6, hm4, hm6]; rfl)) ?_))
      refine W.cond rfl (fun _ => ?_) (fun h => absurd h (by decide))
      (repeat (first | refine W.seq ?_ | refine W.block ?_ | refine W.skip ?_))
      refine W.regionK tab_ok b (by decide) ?_
      refine runk_split 2 (by simp only [exa, beq_self_eq_true, ByteArray.size, Nat.reduceAdd, Nat.reduceLeDiff, Nat.reduceEqDiff, Nat.reduceMul, Int.reduceToNat, reduceIte, Int.reduceLE, Int.reduceNeg, killS_app, A.kill, jq, b4q, b6q, if_false, h0, h4, h6, hm4, hm6, cExpr, cShape]; rfl) ?_
      refine runk_callE (D := [q]) rfl rfl rfl rfl rfl (fun i hi => by simp at hi; subst hi; exact nkq) (by simp) (cvs_cons cv_refl (cvs_cons cv_refl cvs_nil)) (layM h1 u' bs' [⟨#[110, 101, 119, 32, 105, 110, 116, 91]⟩] (by simp) (Nat.le_of_ble_eq_true rfl) (by have hf := hfit; simp [txtB] at hf ⊢; omega)) ?_
      simp only [killL, putS]
      refine runk_exec (by simp only [exa, beq_self_eq_true, ByteArray.size, Nat.reduceAdd, Nat.reduceLeDiff, Nat.reduceEqDiff, Nat.reduceMul, Int.reduceToNat, reduceIte, Int.reduceLE, Int.reduceNeg]; rfl) ?_
      (repeat (first | refine W.seq ?_ | refine W.block ?_ | refine W.skip ?_))
      refine W.regionK tab_ok b (by decide) ?_
      refine runk_split 3 (by simp only [exa, beq_self_eq_true, ByteArray.size, Nat.reduceAdd, Nat.reduceLeDiff, Nat.reduceEqDiff, Nat.reduceMul, Int.reduceToNat, reduceIte, Int.reduceLE, Int.reduceNeg, killS_app, A.kill, jq, b4q, b6q, if_false, h0, h4, h6, hm4, hm6, cExpr, cShape, cExprs]; rfl) ?_
      refine runk_callE (D := [q]) rfl rfl rfl rfl rfl (fun i hi => by simp at hi; subst hi; exact nkq) (by simp) (cvs_cons cv_refl (cvs_cons cv_refl (cvs_cons cv_refl cvs_nil))) (listM h1 f1 (l := [y]) (fun y hy => hE y (by simp [hy])) (Nat.le_trans hlen (by decide)) true (bs' ++ txtB [⟨#[110, 101, 119, 32, 105, 110, 116, 91]⟩]) ⟨#[93]⟩ (by show _ + _ + 1 ≤ _; have hf := hfit; simp [txtB] at hf ⊢; omega)) ?_
      simp only [killL, putS]
      refine runk_exec (by simp only [exa, beq_self_eq_true, ByteArray.size, Nat.reduceAdd, Nat.reduceLeDiff, Nat.reduceEqDiff, Nat.reduceMul, Int.reduceToNat, reduceIte, Int.reduceLE, Int.reduceNeg]; rfl) ?_
      refine fin _ _ (by simp [txtB]) ?_
      repeat (first | exact keeps_refl _ | refine keeps_upd (by decide) ?_ | refine keeps_kill h1.ne ?_)
    · -- Field
      obtain ⟨⟨yk, yn, ym, ys⟩, rfl⟩ : ∃ y, kids = [y] := len1 hlo hhi
      have hT : textX ⟨7, n, nm, [⟨yk, yn, ym, ys⟩]⟩ = exprX ⟨yk, yn, ym, ys⟩ 4 ++ [46] ++ nm.data.toList := by rw [textX_eq, ← kidX_at (l := [⟨yk, yn, ym, ys⟩]) (i := 0) rfl]; rfl
      rw [hT] at hfit fin
      repeat (first | refine W.seq ?_ | refine W.block ?_ | refine W.skip ?_ | refine W.exit ?_ | refine W.region tab_ok b (by decide) (exec_run (by simp only [exa, beq_self_eq_true, ByteArray.size, Nat.reduceAdd, Nat.reduceLeDiff, Nat.reduceEqDiff, Nat.reduceMul, Int.reduceToNat, reduceIte, Int.reduceLE, Int.reduceNeg, h0, h4, h6, hm4, hm6]; rfl)) ?_)
      iterate 6 (refine W.cond rfl (fun h => absurd h (by decide)) (fun _ => ?_); repeat (first | refine W.seq ?_ | refine W.block ?_ | refine W.skip ?_ | refine W.exit ?_ | refine W.region tab_ok b (by decide) (exec_run (by simp only [exa, beq_self_eq_true, ByteArray.size, Nat.reduceAdd, Nat.reduceLeDiff, Nat.reduceEqDiff, Nat.reduceMul, Int.reduceToNat, reduceIte, Int.reduceLE, Int.reduceNeg, h0, h4, h6, hm4, hm6]; rfl)) ?_))
      refine W.cond rfl (fun _ => ?_) (fun h => absurd h (by decide))
      (repeat (first | refine W.seq ?_ | refine W.block ?_ | refine W.skip ?_))
      refine W.regionK tab_ok b (by decide) ?_
      refine runk_split 5 (by simp only [exa, beq_self_eq_true, ByteArray.size, Nat.reduceAdd, Nat.reduceLeDiff, Nat.reduceEqDiff, Nat.reduceMul, Int.reduceToNat, reduceIte, Int.reduceLE, Int.reduceNeg, killS_app, A.kill, jq, b4q, b6q, if_false, h0, h4, h6, hm4, hm6, cExpr, cShape, cExprs]; rfl) ?_
      refine runk_callE (D := [q]) rfl rfl rfl rfl rfl (fun i hi => by simp at hi; subst hi; exact nkq) (by simp) (cvs_cons cv_refl (cvs_cons cv_refl (cvs_cons cv_refl cvs_nil))) (exprM h1 f1 (hE ⟨yk, yn, ym, ys⟩ (by simp)) u' bs' 4 (by have hf := hfit; simp [txtB] at hf ⊢; omega)) ?_
      simp only [killL, putS]
      refine runk_exec (by simp only [exa, beq_self_eq_true, ByteArray.size, Nat.reduceAdd, Nat.reduceLeDiff, Nat.reduceEqDiff, Nat.reduceMul, Int.reduceToNat, reduceIte, Int.reduceLE, Int.reduceNeg]; rfl) ?_
      (repeat (first | refine W.seq ?_ | refine W.block ?_ | refine W.skip ?_))
      refine W.regionK tab_ok b (by decide) ?_
      refine runk_split 4 (by simp only [exa, beq_self_eq_true, ByteArray.size, Nat.reduceAdd, Nat.reduceLeDiff, Nat.reduceEqDiff, Nat.reduceMul, Int.reduceToNat, reduceIte, Int.reduceLE, Int.reduceNeg, killS_app, A.kill, jq, b4q, b6q, if_false, h0, h4, h6, hm4, hm6, cExpr, cShape]; rfl) ?_
      refine runk_callE (D := [q]) rfl rfl rfl rfl rfl (fun i hi => by simp at hi; subst hi; exact nkq) (by simp) (cvs_cons cv_refl (cvs_cons cv_refl cvs_nil)) (layM h1 true (bs' ++ exprX ⟨yk, yn, ym, ys⟩ 4) [⟨#[46]⟩, nm] (by simp) (Nat.le_of_ble_eq_true rfl) (by have hf := hfit; simp [txtB] at hf ⊢; omega)) ?_
      simp only [killL, putS]
      refine runk_exec (by simp only [exa, beq_self_eq_true, ByteArray.size, Nat.reduceAdd, Nat.reduceLeDiff, Nat.reduceEqDiff, Nat.reduceMul, Int.reduceToNat, reduceIte, Int.reduceLE, Int.reduceNeg]; rfl) ?_
      refine fin _ _ (by simp [txtB]) ?_
      repeat (first | exact keeps_refl _ | refine keeps_upd (by decide) ?_ | refine keeps_kill h1.ne ?_)
    · -- Elem
      obtain ⟨⟨yk, yn, ym, ys⟩, y2, rfl⟩ : ∃ y y2, kids = [y, y2] := len2' hlo hhi
      have hT : textX ⟨8, n, nm, [⟨yk, yn, ym, ys⟩, y2]⟩ = exprX ⟨yk, yn, ym, ys⟩ 4 ++ [91] ++ listE [y2] ++ [93] := by rw [textX_eq, ← kidX_at (l := [⟨yk, yn, ym, ys⟩, y2]) (i := 0) rfl, ← listX_eq]; rfl
      rw [hT] at hfit fin
      have hlen : [y2].length ≤ 100 := by simp
      have hsl := eq_true (Or.inr (rows4 [⟨yk, yn, ym, ys⟩, y2]) : False ∨ ∀ x ∈ [[C.int .i64 yk, C.int .i64 yn, C.str ym, C.sl (cExprs ys)], cExpr y2], x.length = 4)
      repeat (first | refine W.seq ?_ | refine W.block ?_ | refine W.skip ?_ | refine W.exit ?_ | refine W.region tab_ok b (by decide) (exec_run (by simp only [exa, beq_self_eq_true, ByteArray.size, Nat.reduceAdd, Nat.reduceLeDiff, Nat.reduceEqDiff, Nat.reduceMul, Int.reduceToNat, reduceIte, Int.reduceLE, Int.reduceNeg, h0, h4, h6, hm4, hm6]; rfl)) ?_)
      iterate 7 (refine W.cond rfl (fun h => absurd h (by decide)) (fun _ => ?_); repeat (first | refine W.seq ?_ | refine W.block ?_ | refine W.skip ?_ | refine W.exit ?_ | refine W.region tab_ok b (by decide) (exec_run (by simp only [exa, beq_self_eq_true, ByteArray.size, Nat.reduceAdd, Nat.reduceLeDiff, Nat.reduceEqDiff, Nat.reduceMul, Int.reduceToNat, reduceIte, Int.reduceLE, Int.reduceNeg, h0, h4, h6, hm4, hm6]; rfl)) ?_))
      refine W.cond rfl (fun _ => ?_) (fun h => absurd h (by decide))
      (repeat (first | refine W.seq ?_ | refine W.block ?_ | refine W.skip ?_))
      refine W.regionK tab_ok b (by decide) ?_
      refine runk_split 5 (by simp only [exa, beq_self_eq_true, ByteArray.size, Nat.reduceAdd, Nat.reduceLeDiff, Nat.reduceEqDiff, Nat.reduceMul, Int.reduceToNat, reduceIte, Int.reduceLE, Int.reduceNeg, killS_app, A.kill, jq, b4q, b6q, if_false, h0, h4, h6, hm4, hm6, cExpr, cShape, cExprs]; rfl) ?_
      refine runk_callE (D := [q]) rfl rfl rfl rfl rfl (fun i hi => by simp at hi; subst hi; exact nkq) (by simp) (cvs_cons cv_refl (cvs_cons cv_refl (cvs_cons cv_refl cvs_nil))) (exprM h1 f1 (hE ⟨yk, yn, ym, ys⟩ (by simp)) u' bs' 4 (by have hf := hfit; simp [txtB] at hf ⊢; omega)) ?_
      simp only [killL, putS]
      refine runk_exec (by simp only [exa, beq_self_eq_true, ByteArray.size, Nat.reduceAdd, Nat.reduceLeDiff, Nat.reduceEqDiff, Nat.reduceMul, Int.reduceToNat, reduceIte, Int.reduceLE, Int.reduceNeg]; rfl) ?_
      (repeat (first | refine W.seq ?_ | refine W.block ?_ | refine W.skip ?_))
      refine W.regionK tab_ok b (by decide) ?_
      refine runk_split 2 (by simp only [exa, beq_self_eq_true, ByteArray.size, Nat.reduceAdd, Nat.reduceLeDiff, Nat.reduceEqDiff, Nat.reduceMul, Int.reduceToNat, reduceIte, Int.reduceLE, Int.reduceNeg, killS_app, A.kill, jq, b4q, b6q, if_false, h0, h4, h6, hm4, hm6, cExpr, cShape]; rfl) ?_
      refine runk_callE (D := [q]) rfl rfl rfl rfl rfl (fun i hi => by simp at hi; subst hi; exact nkq) (by simp) (cvs_cons cv_refl (cvs_cons cv_refl cvs_nil)) (layM h1 true (bs' ++ exprX ⟨yk, yn, ym, ys⟩ 4) [⟨#[91]⟩] (by simp) (Nat.le_of_ble_eq_true rfl) (by have hf := hfit; simp [txtB] at hf ⊢; omega)) ?_
      simp only [killL, putS]
      refine runk_exec (by simp only [exa, beq_self_eq_true, ByteArray.size, Nat.reduceAdd, Nat.reduceLeDiff, Nat.reduceEqDiff, Nat.reduceMul, Int.reduceToNat, reduceIte, Int.reduceLE, Int.reduceNeg]; rfl) ?_
      (repeat (first | refine W.seq ?_ | refine W.block ?_ | refine W.skip ?_))
      refine W.regionK tab_ok b (by decide) ?_
      refine runk_split 4 (by simp only [exa, beq_self_eq_true, ByteArray.size, Nat.reduceAdd, Nat.reduceLeDiff, Nat.reduceEqDiff, Nat.reduceMul, Int.reduceToNat, reduceIte, Int.reduceLE, Int.reduceNeg, killS_app, A.kill, jq, b4q, b6q, if_false, h0, h4, h6, hm4, hm6, cExpr, cShape, cExprs, hsl, if_true]; rfl) ?_
      refine runk_callE (D := [q]) rfl rfl rfl rfl rfl (fun i hi => by simp at hi; subst hi; exact nkq) (by simp) (cvs_cons cv_refl (cvs_cons cv_refl (cvs_cons cv_refl cvs_nil))) (listM h1 f1 (l := [y2]) (fun y hy => hE y (by simp [hy])) (Nat.le_trans hlen (by decide)) true (bs' ++ exprX ⟨yk, yn, ym, ys⟩ 4 ++ txtB [⟨#[91]⟩]) ⟨#[93]⟩ (by show _ + _ + 1 ≤ _; have hf := hfit; simp [txtB] at hf ⊢; omega)) ?_
      simp only [killL, putS]
      refine runk_exec (by simp only [exa, beq_self_eq_true, ByteArray.size, Nat.reduceAdd, Nat.reduceLeDiff, Nat.reduceEqDiff, Nat.reduceMul, Int.reduceToNat, reduceIte, Int.reduceLE, Int.reduceNeg]; rfl) ?_
      refine fin _ _ (by simp [txtB]) ?_
      repeat (first | exact keeps_refl _ | refine keeps_upd (by decide) ?_ | refine keeps_kill h1.ne ?_)
    · -- Length
      obtain ⟨⟨yk, yn, ym, ys⟩, rfl⟩ : ∃ y, kids = [y] := len1 hlo hhi
      have hT : textX ⟨9, n, nm, [⟨yk, yn, ym, ys⟩]⟩ = exprX ⟨yk, yn, ym, ys⟩ 4 ++ [46, 108, 101, 110, 103, 116, 104] := by rw [textX_eq, ← kidX_at (l := [⟨yk, yn, ym, ys⟩]) (i := 0) rfl]; rfl
      rw [hT] at hfit fin
      repeat (first | refine W.seq ?_ | refine W.block ?_ | refine W.skip ?_ | refine W.exit ?_ | refine W.region tab_ok b (by decide) (exec_run (by simp only [exa, beq_self_eq_true, ByteArray.size, Nat.reduceAdd, Nat.reduceLeDiff, Nat.reduceEqDiff, Nat.reduceMul, Int.reduceToNat, reduceIte, Int.reduceLE, Int.reduceNeg, h0, h4, h6, hm4, hm6]; rfl)) ?_)
      iterate 8 (refine W.cond rfl (fun h => absurd h (by decide)) (fun _ => ?_); repeat (first | refine W.seq ?_ | refine W.block ?_ | refine W.skip ?_ | refine W.exit ?_ | refine W.region tab_ok b (by decide) (exec_run (by simp only [exa, beq_self_eq_true, ByteArray.size, Nat.reduceAdd, Nat.reduceLeDiff, Nat.reduceEqDiff, Nat.reduceMul, Int.reduceToNat, reduceIte, Int.reduceLE, Int.reduceNeg, h0, h4, h6, hm4, hm6]; rfl)) ?_))
      refine W.cond rfl (fun _ => ?_) (fun h => absurd h (by decide))
      (repeat (first | refine W.seq ?_ | refine W.block ?_ | refine W.skip ?_))
      refine W.regionK tab_ok b (by decide) ?_
      refine runk_split 5 (by simp only [exa, beq_self_eq_true, ByteArray.size, Nat.reduceAdd, Nat.reduceLeDiff, Nat.reduceEqDiff, Nat.reduceMul, Int.reduceToNat, reduceIte, Int.reduceLE, Int.reduceNeg, killS_app, A.kill, jq, b4q, b6q, if_false, h0, h4, h6, hm4, hm6, cExpr, cShape, cExprs]; rfl) ?_
      refine runk_callE (D := [q]) rfl rfl rfl rfl rfl (fun i hi => by simp at hi; subst hi; exact nkq) (by simp) (cvs_cons cv_refl (cvs_cons cv_refl (cvs_cons cv_refl cvs_nil))) (exprM h1 f1 (hE ⟨yk, yn, ym, ys⟩ (by simp)) u' bs' 4 (by have hf := hfit; simp [txtB] at hf ⊢; omega)) ?_
      simp only [killL, putS]
      refine runk_exec (by simp only [exa, beq_self_eq_true, ByteArray.size, Nat.reduceAdd, Nat.reduceLeDiff, Nat.reduceEqDiff, Nat.reduceMul, Int.reduceToNat, reduceIte, Int.reduceLE, Int.reduceNeg]; rfl) ?_
      (repeat (first | refine W.seq ?_ | refine W.block ?_ | refine W.skip ?_))
      refine W.regionK tab_ok b (by decide) ?_
      refine runk_split 2 (by simp only [exa, beq_self_eq_true, ByteArray.size, Nat.reduceAdd, Nat.reduceLeDiff, Nat.reduceEqDiff, Nat.reduceMul, Int.reduceToNat, reduceIte, Int.reduceLE, Int.reduceNeg, killS_app, A.kill, jq, b4q, b6q, if_false, h0, h4, h6, hm4, hm6, cExpr, cShape]; rfl) ?_
      refine runk_callE (D := [q]) rfl rfl rfl rfl rfl (fun i hi => by simp at hi; subst hi; exact nkq) (by simp) (cvs_cons cv_refl (cvs_cons cv_refl cvs_nil)) (layM h1 true (bs' ++ exprX ⟨yk, yn, ym, ys⟩ 4) [⟨#[46, 108, 101, 110, 103, 116, 104]⟩] (by simp) (Nat.le_of_ble_eq_true rfl) (by have hf := hfit; simp [txtB] at hf ⊢; omega)) ?_
      simp only [killL, putS]
      refine runk_exec (by simp only [exa, beq_self_eq_true, ByteArray.size, Nat.reduceAdd, Nat.reduceLeDiff, Nat.reduceEqDiff, Nat.reduceMul, Int.reduceToNat, reduceIte, Int.reduceLE, Int.reduceNeg]; rfl) ?_
      refine fin _ _ (by simp [txtB]) ?_
      repeat (first | exact keeps_refl _ | refine keeps_upd (by decide) ?_ | refine keeps_kill h1.ne ?_)
    · -- Call
      obtain ⟨⟨yk, yn, ym, ys⟩, r, rfl, hlen⟩ : ∃ y r, kids = y :: r ∧ r.length ≤ 100 := len5 hlo hhi
      have hT : textX ⟨10, n, nm, ⟨yk, yn, ym, ys⟩ :: r⟩ = exprX ⟨yk, yn, ym, ys⟩ 4 ++ [46] ++ nm.data.toList ++ [40] ++ listE r ++ [41] := by rw [textX_eq, ← kidX_at (l := ⟨yk, yn, ym, ys⟩ :: r) (i := 0) rfl, ← listX_eq]; rfl
      rw [hT] at hfit fin
      have hsl := eq_true (Or.inr (rows4 (⟨yk, yn, ym, ys⟩ :: r)) : False ∨ ∀ x ∈ [C.int .i64 yk, C.int .i64 yn, C.str ym, C.sl (cExprs ys)] :: cExprs r, x.length = 4)
      repeat (first | refine W.seq ?_ | refine W.block ?_ | refine W.skip ?_ | refine W.exit ?_ | refine W.region tab_ok b (by decide) (exec_run (by simp only [exa, beq_self_eq_true, ByteArray.size, Nat.reduceAdd, Nat.reduceLeDiff, Nat.reduceEqDiff, Nat.reduceMul, Int.reduceToNat, reduceIte, Int.reduceLE, Int.reduceNeg, h0, h4, h6, hm4, hm6]; rfl)) ?_)
      iterate 9 (refine W.cond rfl (fun h => absurd h (by decide)) (fun _ => ?_); repeat (first | refine W.seq ?_ | refine W.block ?_ | refine W.skip ?_ | refine W.exit ?_ | refine W.region tab_ok b (by decide) (exec_run (by simp only [exa, beq_self_eq_true, ByteArray.size, Nat.reduceAdd, Nat.reduceLeDiff, Nat.reduceEqDiff, Nat.reduceMul, Int.reduceToNat, reduceIte, Int.reduceLE, Int.reduceNeg, h0, h4, h6, hm4, hm6]; rfl)) ?_))
      refine W.cond rfl (fun _ => ?_) (fun h => absurd h (by decide))
      (repeat (first | refine W.seq ?_ | refine W.block ?_ | refine W.skip ?_))
      refine W.regionK tab_ok b (by decide) ?_
      refine runk_split 5 (by simp only [exa, beq_self_eq_true, ByteArray.size, Nat.reduceAdd, Nat.reduceLeDiff, Nat.reduceEqDiff, Nat.reduceMul, Int.reduceToNat, reduceIte, Int.reduceLE, Int.reduceNeg, killS_app, A.kill, jq, b4q, b6q, if_false, h0, h4, h6, hm4, hm6, cExpr, cShape, cExprs]; rfl) ?_
      refine runk_callE (D := [q]) rfl rfl rfl rfl rfl (fun i hi => by simp at hi; subst hi; exact nkq) (by simp) (cvs_cons cv_refl (cvs_cons cv_refl (cvs_cons cv_refl cvs_nil))) (exprM h1 f1 (hE ⟨yk, yn, ym, ys⟩ (by simp)) u' bs' 4 (by have hf := hfit; simp [txtB] at hf ⊢; omega)) ?_
      simp only [killL, putS]
      refine runk_exec (by simp only [exa, beq_self_eq_true, ByteArray.size, Nat.reduceAdd, Nat.reduceLeDiff, Nat.reduceEqDiff, Nat.reduceMul, Int.reduceToNat, reduceIte, Int.reduceLE, Int.reduceNeg]; rfl) ?_
      (repeat (first | refine W.seq ?_ | refine W.block ?_ | refine W.skip ?_))
      refine W.regionK tab_ok b (by decide) ?_
      refine runk_split 4 (by simp only [exa, beq_self_eq_true, ByteArray.size, Nat.reduceAdd, Nat.reduceLeDiff, Nat.reduceEqDiff, Nat.reduceMul, Int.reduceToNat, reduceIte, Int.reduceLE, Int.reduceNeg, killS_app, A.kill, jq, b4q, b6q, if_false, h0, h4, h6, hm4, hm6, cExpr, cShape]; rfl) ?_
      refine runk_callE (D := [q]) rfl rfl rfl rfl rfl (fun i hi => by simp at hi; subst hi; exact nkq) (by simp) (cvs_cons cv_refl (cvs_cons cv_refl cvs_nil)) (layM h1 true (bs' ++ exprX ⟨yk, yn, ym, ys⟩ 4) [⟨#[46]⟩, nm, ⟨#[40]⟩] (by simp) (Nat.le_of_ble_eq_true rfl) (by have hf := hfit; simp [txtB] at hf ⊢; omega)) ?_
      simp only [killL, putS]
      refine runk_exec (by simp only [exa, beq_self_eq_true, ByteArray.size, Nat.reduceAdd, Nat.reduceLeDiff, Nat.reduceEqDiff, Nat.reduceMul, Int.reduceToNat, reduceIte, Int.reduceLE, Int.reduceNeg]; rfl) ?_
      (repeat (first | refine W.seq ?_ | refine W.block ?_ | refine W.skip ?_))
      refine W.regionK tab_ok b (by decide) ?_
      refine runk_split 4 (by simp only [exa, beq_self_eq_true, ByteArray.size, Nat.reduceAdd, Nat.reduceLeDiff, Nat.reduceEqDiff, Nat.reduceMul, Int.reduceToNat, reduceIte, Int.reduceLE, Int.reduceNeg, killS_app, A.kill, jq, b4q, b6q, if_false, h0, h4, h6, hm4, hm6, cExpr, cShape, cExprs, hsl, if_true, Nat.le_refl, List.take_length]; rfl) ?_
      refine runk_callE (D := [q]) rfl rfl rfl rfl rfl (fun i hi => by simp at hi; subst hi; exact nkq) (by simp) (cvs_cons cv_refl (cvs_cons cv_refl (cvs_cons cv_refl cvs_nil))) (listM h1 f1 (l := r) (fun y hy => hE y (by simp [hy])) (Nat.le_trans hlen (by decide)) true (bs' ++ exprX ⟨yk, yn, ym, ys⟩ 4 ++ txtB [⟨#[46]⟩, nm, ⟨#[40]⟩]) ⟨#[41]⟩ (by show _ + _ + 1 ≤ _; have hf := hfit; simp [txtB] at hf ⊢; omega)) ?_
      simp only [killL, putS]
      refine runk_exec (by simp only [exa, beq_self_eq_true, ByteArray.size, Nat.reduceAdd, Nat.reduceLeDiff, Nat.reduceEqDiff, Nat.reduceMul, Int.reduceToNat, reduceIte, Int.reduceLE, Int.reduceNeg]; rfl) ?_
      refine fin _ _ (by simp [txtB]) ?_
      repeat (first | exact keeps_refl _ | refine keeps_upd (by decide) ?_ | refine keeps_kill h1.ne ?_)
    · -- Read
      have hT : textX ⟨11, n, nm, kids⟩ = [114, 101, 97, 100, 40] ++ Lib.itoa n ++ [41] := by simp [textX, bodyX]
      rw [hT] at hfit fin
      repeat (first | refine W.seq ?_ | refine W.block ?_ | refine W.skip ?_ | refine W.exit ?_ | refine W.region tab_ok b (by decide) (exec_run (by simp only [exa, beq_self_eq_true, ByteArray.size, Nat.reduceAdd, Nat.reduceLeDiff, Nat.reduceEqDiff, Nat.reduceMul, Int.reduceToNat, reduceIte, Int.reduceLE, Int.reduceNeg, h0, h4, h6, hm4, hm6]; rfl)) ?_)
      iterate 10 (refine W.cond rfl (fun h => absurd h (by decide)) (fun _ => ?_); repeat (first | refine W.seq ?_ | refine W.block ?_ | refine W.skip ?_ | refine W.exit ?_ | refine W.region tab_ok b (by decide) (exec_run (by simp only [exa, beq_self_eq_true, ByteArray.size, Nat.reduceAdd, Nat.reduceLeDiff, Nat.reduceEqDiff, Nat.reduceMul, Int.reduceToNat, reduceIte, Int.reduceLE, Int.reduceNeg, h0, h4, h6, hm4, hm6]; rfl)) ?_))
      refine W.cond rfl (fun _ => ?_) (fun h => absurd h (by decide))
      (repeat (first | refine W.seq ?_ | refine W.block ?_ | refine W.skip ?_))
      refine W.regionK tab_ok b (by decide) ?_
      refine runk_split 3 (by simp only [exa, beq_self_eq_true, ByteArray.size, Nat.reduceAdd, Nat.reduceLeDiff, Nat.reduceEqDiff, Nat.reduceMul, Int.reduceToNat, reduceIte, Int.reduceLE, Int.reduceNeg, killS_app, A.kill, jq, b4q, b6q, if_false, h0, h4, h6, hm4, hm6, cExpr, cShape]; rfl) ?_
      refine runk_call rfl rfl rfl rfl rfl (by simp) (cvs_cons cv_refl cvs_nil) (num_ok n _) ?_
      refine runk_split 1 (by simp only [exa, beq_self_eq_true, ByteArray.size, Nat.reduceAdd, Nat.reduceLeDiff, Nat.reduceEqDiff, Nat.reduceMul, Int.reduceToNat, reduceIte, Int.reduceLE, Int.reduceNeg, killS_app, A.kill, jq, b4q, b6q, if_false, h0, h4, h6, hm4, hm6, cExpr, cShape]; rfl) ?_
      refine runk_callE (D := [q]) rfl rfl rfl rfl rfl (fun i hi => by simp at hi; subst hi; exact nkq) (by simp) (cvs_cons cv_refl (cvs_cons cv_refl cvs_nil)) (layM h1 u' bs' [⟨#[114, 101, 97, 100, 40]⟩, ⟨(Lib.itoa n).toArray⟩, ⟨#[41]⟩] (by simp) (Nat.le_of_ble_eq_true rfl) (by have hf := hfit; simp [txtB] at hf ⊢; omega)) ?_
      simp only [killL, putS]
      refine runk_exec (by simp only [exa, beq_self_eq_true, ByteArray.size, Nat.reduceAdd, Nat.reduceLeDiff, Nat.reduceEqDiff, Nat.reduceMul, Int.reduceToNat, reduceIte, Int.reduceLE, Int.reduceNeg]; rfl) ?_
      refine fin _ _ (by simp [txtB]) ?_
      repeat (first | exact keeps_refl _ | refine keeps_upd (by decide) ?_ | refine keeps_kill h1.ne ?_)
    · -- Declass
      obtain ⟨y, rfl⟩ : ∃ y, kids = [y] := len1 hlo hhi
      have hT : textX ⟨12, n, nm, [y]⟩ = [100, 101, 99, 108, 97, 115, 115, 105, 102, 121, 40] ++ listE [y] ++ [41] := by rw [textX_eq, ← listX_eq]; rfl
      rw [hT] at hfit fin
      have hlen : [y].length ≤ 100 := by simp
      repeat (first | refine W.seq ?_ | refine W.block ?_ | refine W.skip ?_ | refine W.exit ?_ | refine W.region tab_ok b (by decide) (exec_run (by simp only [exa, beq_self_eq_true, ByteArray.size, Nat.reduceAdd, Nat.reduceLeDiff, Nat.reduceEqDiff, Nat.reduceMul, Int.reduceToNat, reduceIte, Int.reduceLE, Int.reduceNeg, h0, h4, h6, hm4, hm6]; rfl)) ?_)
      iterate 11 (refine W.cond rfl (fun h => absurd h (by decide)) (fun _ => ?_); repeat (first | refine W.seq ?_ | refine W.block ?_ | refine W.skip ?_ | refine W.exit ?_ | refine W.region tab_ok b (by decide) (exec_run (by simp only [exa, beq_self_eq_true, ByteArray.size, Nat.reduceAdd, Nat.reduceLeDiff, Nat.reduceEqDiff, Nat.reduceMul, Int.reduceToNat, reduceIte, Int.reduceLE, Int.reduceNeg, h0, h4, h6, hm4, hm6]; rfl)) ?_))
      refine W.cond rfl (fun _ => ?_) (fun h => absurd h (by decide))
      (repeat (first | refine W.seq ?_ | refine W.block ?_ | refine W.skip ?_))
      refine W.regionK tab_ok b (by decide) ?_
      refine runk_split 2 (by simp only [exa, beq_self_eq_true, ByteArray.size, Nat.reduceAdd, Nat.reduceLeDiff, Nat.reduceEqDiff, Nat.reduceMul, Int.reduceToNat, reduceIte, Int.reduceLE, Int.reduceNeg, killS_app, A.kill, jq, b4q, b6q, if_false, h0, h4, h6, hm4, hm6, cExpr, cShape]; rfl) ?_
      refine runk_callE (D := [q]) rfl rfl rfl rfl rfl (fun i hi => by simp at hi; subst hi; exact nkq) (by simp) (cvs_cons cv_refl (cvs_cons cv_refl cvs_nil)) (layM h1 u' bs' [⟨#[100, 101, 99, 108, 97, 115, 115, 105, 102, 121, 40]⟩] (by simp) (Nat.le_of_ble_eq_true rfl) (by have hf := hfit; simp [txtB] at hf ⊢; omega)) ?_
      simp only [killL, putS]
      refine runk_exec (by simp only [exa, beq_self_eq_true, ByteArray.size, Nat.reduceAdd, Nat.reduceLeDiff, Nat.reduceEqDiff, Nat.reduceMul, Int.reduceToNat, reduceIte, Int.reduceLE, Int.reduceNeg]; rfl) ?_
      (repeat (first | refine W.seq ?_ | refine W.block ?_ | refine W.skip ?_))
      refine W.regionK tab_ok b (by decide) ?_
      refine runk_split 3 (by simp only [exa, beq_self_eq_true, ByteArray.size, Nat.reduceAdd, Nat.reduceLeDiff, Nat.reduceEqDiff, Nat.reduceMul, Int.reduceToNat, reduceIte, Int.reduceLE, Int.reduceNeg, killS_app, A.kill, jq, b4q, b6q, if_false, h0, h4, h6, hm4, hm6, cExpr, cShape, cExprs]; rfl) ?_
      refine runk_callE (D := [q]) rfl rfl rfl rfl rfl (fun i hi => by simp at hi; subst hi; exact nkq) (by simp) (cvs_cons cv_refl (cvs_cons cv_refl (cvs_cons cv_refl cvs_nil))) (listM h1 f1 (l := [y]) (fun y hy => hE y (by simp [hy])) (Nat.le_trans hlen (by decide)) true (bs' ++ txtB [⟨#[100, 101, 99, 108, 97, 115, 115, 105, 102, 121, 40]⟩]) ⟨#[41]⟩ (by show _ + _ + 1 ≤ _; have hf := hfit; simp [txtB] at hf ⊢; omega)) ?_
      simp only [killL, putS]
      refine runk_exec (by simp only [exa, beq_self_eq_true, ByteArray.size, Nat.reduceAdd, Nat.reduceLeDiff, Nat.reduceEqDiff, Nat.reduceMul, Int.reduceToNat, reduceIte, Int.reduceLE, Int.reduceNeg]; rfl) ?_
      refine fin _ _ (by simp [txtB]) ?_
      repeat (first | exact keeps_refl _ | refine keeps_upd (by decide) ?_ | refine keeps_kill h1.ne ?_)
    · obtain ⟨⟨yk, yn, ym, ys⟩, ⟨zk, zn, zm, zs⟩, rfl⟩ : ∃ y y2, kids = [y, y2] := len2' hlo hhi
      have hT : textX ⟨13, n, nm, [⟨yk, yn, ym, ys⟩, ⟨zk, zn, zm, zs⟩]⟩ = exprX ⟨yk, yn, ym, ys⟩ 2 ++ [32, 43, 32] ++ exprX ⟨zk, zn, zm, zs⟩ 3 := by
        rw [textX_eq, ← kidX_at (l := [⟨yk, yn, ym, ys⟩, ⟨zk, zn, zm, zs⟩]) (i := 0) rfl, ← kidX_at (l := [⟨yk, yn, ym, ys⟩, ⟨zk, zn, zm, zs⟩]) (i := 1) rfl]; rfl
      rw [hT] at hfit fin
      have hlv : (shapeOf 13).1.level = 2 := rfl
      have hsg : (shapeOf 13).1.sign = ⟨#[32, 43, 32]⟩ := rfl
      rw [hlv, hsg] at hm6
      repeat (first | refine W.seq ?_ | refine W.block ?_ | refine W.skip ?_ | refine W.exit ?_ | refine W.region tab_ok b (by decide) (exec_run (by simp only [exa, beq_self_eq_true, ByteArray.size, Nat.reduceAdd, Nat.reduceLeDiff, Nat.reduceEqDiff, Nat.reduceMul, Int.reduceToNat, reduceIte, Int.reduceLE, Int.reduceNeg, h0, h4, h6, hm4, hm6]; rfl)) ?_)
      iterate 12 (refine W.cond rfl (fun h => absurd h (by decide)) (fun _ => ?_); repeat (first | refine W.seq ?_ | refine W.block ?_ | refine W.skip ?_ | refine W.exit ?_ | refine W.region tab_ok b (by decide) (exec_run (by simp only [exa, beq_self_eq_true, ByteArray.size, Nat.reduceAdd, Nat.reduceLeDiff, Nat.reduceEqDiff, Nat.reduceMul, Int.reduceToNat, reduceIte, Int.reduceLE, Int.reduceNeg, h0, h4, h6, hm4, hm6]; rfl)) ?_))
      refine W.regionDK tab_ok b follows_mixed (by kernel_rfl) (by decide) ?_
      refine runk_split 8 (by simp only [exa, beq_self_eq_true, ByteArray.size, Nat.reduceAdd, Nat.reduceLeDiff, Nat.reduceEqDiff, Nat.reduceMul, Int.reduceToNat, reduceIte, Int.reduceLE, Int.reduceNeg, killS_app, A.kill, jq, b4q, b6q, if_false, h0, h4, h6, hm4, hm6, cExpr, cShape, cExprs]; rfl) ?_
      refine runk_callE (D := [q]) rfl rfl rfl rfl rfl (fun i hi => by simp at hi; subst hi; exact nkq) (by simp) (cvs_cons cv_refl (cvs_cons cv_refl (cvs_cons cv_refl cvs_nil))) (exprM h1 f1 (hE ⟨yk, yn, ym, ys⟩ (by simp)) u' bs' 2 (by have hf := hfit; simp [txtB] at hf ⊢; omega)) ?_
      simp only [killL, putS]
      refine runk_exec (by simp only [exa, beq_self_eq_true, ByteArray.size, Nat.reduceAdd, Nat.reduceLeDiff, Nat.reduceEqDiff, Nat.reduceMul, Int.reduceToNat, reduceIte, Int.reduceLE, Int.reduceNeg]; rfl) ?_
      (repeat (first | refine W.seq ?_ | refine W.block ?_ | refine W.skip ?_))
      refine W.regionK tab_ok b (by decide) ?_
      refine runk_split 4 (by simp only [exa, beq_self_eq_true, ByteArray.size, Nat.reduceAdd, Nat.reduceLeDiff, Nat.reduceEqDiff, Nat.reduceMul, Int.reduceToNat, reduceIte, Int.reduceLE, Int.reduceNeg, killS_app, A.kill, jq, b4q, b6q, if_false, h0, h4, h6, hm4, hm6, cExpr, cShape]; rfl) ?_
      refine runk_callE (D := [q]) rfl rfl rfl rfl rfl (fun i hi => by simp at hi; subst hi; exact nkq) (by simp) (cvs_cons cv_refl (cvs_cons cv_refl cvs_nil)) (layM h1 true (bs' ++ exprX ⟨yk, yn, ym, ys⟩ 2) [⟨#[32, 43, 32]⟩] (by simp) (Nat.le_of_ble_eq_true rfl) (by have hf := hfit; simp [txtB] at hf ⊢; omega)) ?_
      simp only [killL, putS]
      refine runk_exec (by simp only [exa, beq_self_eq_true, ByteArray.size, Nat.reduceAdd, Nat.reduceLeDiff, Nat.reduceEqDiff, Nat.reduceMul, Int.reduceToNat, reduceIte, Int.reduceLE, Int.reduceNeg]; rfl) ?_
      (repeat (first | refine W.seq ?_ | refine W.block ?_ | refine W.skip ?_))
      refine W.regionDK tab_ok b follows_mixed (by kernel_rfl) (by decide) ?_
      refine runk_split 8 (by simp only [exa, beq_self_eq_true, ByteArray.size, Nat.reduceAdd, Nat.reduceLeDiff, Nat.reduceEqDiff, Nat.reduceMul, Int.reduceToNat, reduceIte, Int.reduceLE, Int.reduceNeg, killS_app, A.kill, jq, b4q, b6q, if_false, h0, h4, h6, hm4, hm6, cExpr, cShape, cExprs]; rfl) ?_
      refine runk_callE (D := [q]) rfl rfl rfl rfl rfl (fun i hi => by simp at hi; subst hi; exact nkq) (by simp) (cvs_cons cv_refl (cvs_cons cv_refl (cvs_cons cv_refl cvs_nil))) (exprM h1 f1 (hE ⟨zk, zn, zm, zs⟩ (by simp)) true (bs' ++ exprX ⟨yk, yn, ym, ys⟩ 2 ++ txtB [⟨#[32, 43, 32]⟩]) 3 (by have hf := hfit; simp [txtB] at hf ⊢; omega)) ?_
      simp only [killL, putS]
      refine runk_exec (by simp only [exa, beq_self_eq_true, ByteArray.size, Nat.reduceAdd, Nat.reduceLeDiff, Nat.reduceEqDiff, Nat.reduceMul, Int.reduceToNat, reduceIte, Int.reduceLE, Int.reduceNeg]; rfl) ?_
      refine fin _ _ (by simp [txtB]) ?_
      repeat (first | exact keeps_refl _ | refine keeps_upd (by decide) ?_ | refine keeps_kill h1.ne ?_)
    · obtain ⟨⟨yk, yn, ym, ys⟩, ⟨zk, zn, zm, zs⟩, rfl⟩ : ∃ y y2, kids = [y, y2] := len2' hlo hhi
      have hT : textX ⟨14, n, nm, [⟨yk, yn, ym, ys⟩, ⟨zk, zn, zm, zs⟩]⟩ = exprX ⟨yk, yn, ym, ys⟩ 2 ++ [32, 45, 32] ++ exprX ⟨zk, zn, zm, zs⟩ 3 := by
        rw [textX_eq, ← kidX_at (l := [⟨yk, yn, ym, ys⟩, ⟨zk, zn, zm, zs⟩]) (i := 0) rfl, ← kidX_at (l := [⟨yk, yn, ym, ys⟩, ⟨zk, zn, zm, zs⟩]) (i := 1) rfl]; rfl
      rw [hT] at hfit fin
      have hlv : (shapeOf 14).1.level = 2 := rfl
      have hsg : (shapeOf 14).1.sign = ⟨#[32, 45, 32]⟩ := rfl
      rw [hlv, hsg] at hm6
      repeat (first | refine W.seq ?_ | refine W.block ?_ | refine W.skip ?_ | refine W.exit ?_ | refine W.region tab_ok b (by decide) (exec_run (by simp only [exa, beq_self_eq_true, ByteArray.size, Nat.reduceAdd, Nat.reduceLeDiff, Nat.reduceEqDiff, Nat.reduceMul, Int.reduceToNat, reduceIte, Int.reduceLE, Int.reduceNeg, h0, h4, h6, hm4, hm6]; rfl)) ?_)
      iterate 12 (refine W.cond rfl (fun h => absurd h (by decide)) (fun _ => ?_); repeat (first | refine W.seq ?_ | refine W.block ?_ | refine W.skip ?_ | refine W.exit ?_ | refine W.region tab_ok b (by decide) (exec_run (by simp only [exa, beq_self_eq_true, ByteArray.size, Nat.reduceAdd, Nat.reduceLeDiff, Nat.reduceEqDiff, Nat.reduceMul, Int.reduceToNat, reduceIte, Int.reduceLE, Int.reduceNeg, h0, h4, h6, hm4, hm6]; rfl)) ?_))
      refine W.regionDK tab_ok b follows_mixed (by kernel_rfl) (by decide) ?_
      refine runk_split 8 (by simp only [exa, beq_self_eq_true, ByteArray.size, Nat.reduceAdd, Nat.reduceLeDiff, Nat.reduceEqDiff, Nat.reduceMul, Int.reduceToNat, reduceIte, Int.reduceLE, Int.reduceNeg, killS_app, A.kill, jq, b4q, b6q, if_false, h0, h4, h6, hm4, hm6, cExpr, cShape, cExprs]; rfl) ?_
      refine runk_callE (D := [q]) rfl rfl rfl rfl rfl (fun i hi => by simp at hi; subst hi; exact nkq) (by simp) (cvs_cons cv_refl (cvs_cons cv_refl (cvs_cons cv_refl cvs_nil))) (exprM h1 f1 (hE ⟨yk, yn, ym, ys⟩ (by simp)) u' bs' 2 (by have hf := hfit; simp [txtB] at hf ⊢; omega)) ?_
      simp only [killL, putS]
      refine runk_exec (by simp only [exa, beq_self_eq_true, ByteArray.size, Nat.reduceAdd, Nat.reduceLeDiff, Nat.reduceEqDiff, Nat.reduceMul, Int.reduceToNat, reduceIte, Int.reduceLE, Int.reduceNeg]; rfl) ?_
      (repeat (first | refine W.seq ?_ | refine W.block ?_ | refine W.skip ?_))
      refine W.regionK tab_ok b (by decide) ?_
      refine runk_split 4 (by simp only [exa, beq_self_eq_true, ByteArray.size, Nat.reduceAdd, Nat.reduceLeDiff, Nat.reduceEqDiff, Nat.reduceMul, Int.reduceToNat, reduceIte, Int.reduceLE, Int.reduceNeg, killS_app, A.kill, jq, b4q, b6q, if_false, h0, h4, h6, hm4, hm6, cExpr, cShape]; rfl) ?_
      refine runk_callE (D := [q]) rfl rfl rfl rfl rfl (fun i hi => by simp at hi; subst hi; exact nkq) (by simp) (cvs_cons cv_refl (cvs_cons cv_refl cvs_nil)) (layM h1 true (bs' ++ exprX ⟨yk, yn, ym, ys⟩ 2) [⟨#[32, 45, 32]⟩] (by simp) (Nat.le_of_ble_eq_true rfl) (by have hf := hfit; simp [txtB] at hf ⊢; omega)) ?_
      simp only [killL, putS]
      refine runk_exec (by simp only [exa, beq_self_eq_true, ByteArray.size, Nat.reduceAdd, Nat.reduceLeDiff, Nat.reduceEqDiff, Nat.reduceMul, Int.reduceToNat, reduceIte, Int.reduceLE, Int.reduceNeg]; rfl) ?_
      (repeat (first | refine W.seq ?_ | refine W.block ?_ | refine W.skip ?_))
      refine W.regionDK tab_ok b follows_mixed (by kernel_rfl) (by decide) ?_
      refine runk_split 8 (by simp only [exa, beq_self_eq_true, ByteArray.size, Nat.reduceAdd, Nat.reduceLeDiff, Nat.reduceEqDiff, Nat.reduceMul, Int.reduceToNat, reduceIte, Int.reduceLE, Int.reduceNeg, killS_app, A.kill, jq, b4q, b6q, if_false, h0, h4, h6, hm4, hm6, cExpr, cShape, cExprs]; rfl) ?_
      refine runk_callE (D := [q]) rfl rfl rfl rfl rfl (fun i hi => by simp at hi; subst hi; exact nkq) (by simp) (cvs_cons cv_refl (cvs_cons cv_refl (cvs_cons cv_refl cvs_nil))) (exprM h1 f1 (hE ⟨zk, zn, zm, zs⟩ (by simp)) true (bs' ++ exprX ⟨yk, yn, ym, ys⟩ 2 ++ txtB [⟨#[32, 45, 32]⟩]) 3 (by have hf := hfit; simp [txtB] at hf ⊢; omega)) ?_
      simp only [killL, putS]
      refine runk_exec (by simp only [exa, beq_self_eq_true, ByteArray.size, Nat.reduceAdd, Nat.reduceLeDiff, Nat.reduceEqDiff, Nat.reduceMul, Int.reduceToNat, reduceIte, Int.reduceLE, Int.reduceNeg]; rfl) ?_
      refine fin _ _ (by simp [txtB]) ?_
      repeat (first | exact keeps_refl _ | refine keeps_upd (by decide) ?_ | refine keeps_kill h1.ne ?_)
    · obtain ⟨⟨yk, yn, ym, ys⟩, ⟨zk, zn, zm, zs⟩, rfl⟩ : ∃ y y2, kids = [y, y2] := len2' hlo hhi
      have hT : textX ⟨15, n, nm, [⟨yk, yn, ym, ys⟩, ⟨zk, zn, zm, zs⟩]⟩ = exprX ⟨yk, yn, ym, ys⟩ 3 ++ [32, 42, 32] ++ exprX ⟨zk, zn, zm, zs⟩ 4 := by
        rw [textX_eq, ← kidX_at (l := [⟨yk, yn, ym, ys⟩, ⟨zk, zn, zm, zs⟩]) (i := 0) rfl, ← kidX_at (l := [⟨yk, yn, ym, ys⟩, ⟨zk, zn, zm, zs⟩]) (i := 1) rfl]; rfl
      rw [hT] at hfit fin
      have hlv : (shapeOf 15).1.level = 3 := rfl
      have hsg : (shapeOf 15).1.sign = ⟨#[32, 42, 32]⟩ := rfl
      rw [hlv, hsg] at hm6
      repeat (first | refine W.seq ?_ | refine W.block ?_ | refine W.skip ?_ | refine W.exit ?_ | refine W.region tab_ok b (by decide) (exec_run (by simp only [exa, beq_self_eq_true, ByteArray.size, Nat.reduceAdd, Nat.reduceLeDiff, Nat.reduceEqDiff, Nat.reduceMul, Int.reduceToNat, reduceIte, Int.reduceLE, Int.reduceNeg, h0, h4, h6, hm4, hm6]; rfl)) ?_)
      iterate 12 (refine W.cond rfl (fun h => absurd h (by decide)) (fun _ => ?_); repeat (first | refine W.seq ?_ | refine W.block ?_ | refine W.skip ?_ | refine W.exit ?_ | refine W.region tab_ok b (by decide) (exec_run (by simp only [exa, beq_self_eq_true, ByteArray.size, Nat.reduceAdd, Nat.reduceLeDiff, Nat.reduceEqDiff, Nat.reduceMul, Int.reduceToNat, reduceIte, Int.reduceLE, Int.reduceNeg, h0, h4, h6, hm4, hm6]; rfl)) ?_))
      refine W.regionDK tab_ok b follows_mixed (by kernel_rfl) (by decide) ?_
      refine runk_split 8 (by simp only [exa, beq_self_eq_true, ByteArray.size, Nat.reduceAdd, Nat.reduceLeDiff, Nat.reduceEqDiff, Nat.reduceMul, Int.reduceToNat, reduceIte, Int.reduceLE, Int.reduceNeg, killS_app, A.kill, jq, b4q, b6q, if_false, h0, h4, h6, hm4, hm6, cExpr, cShape, cExprs]; rfl) ?_
      refine runk_callE (D := [q]) rfl rfl rfl rfl rfl (fun i hi => by simp at hi; subst hi; exact nkq) (by simp) (cvs_cons cv_refl (cvs_cons cv_refl (cvs_cons cv_refl cvs_nil))) (exprM h1 f1 (hE ⟨yk, yn, ym, ys⟩ (by simp)) u' bs' 3 (by have hf := hfit; simp [txtB] at hf ⊢; omega)) ?_
      simp only [killL, putS]
      refine runk_exec (by simp only [exa, beq_self_eq_true, ByteArray.size, Nat.reduceAdd, Nat.reduceLeDiff, Nat.reduceEqDiff, Nat.reduceMul, Int.reduceToNat, reduceIte, Int.reduceLE, Int.reduceNeg]; rfl) ?_
      (repeat (first | refine W.seq ?_ | refine W.block ?_ | refine W.skip ?_))
      refine W.regionK tab_ok b (by decide) ?_
      refine runk_split 4 (by simp only [exa, beq_self_eq_true, ByteArray.size, Nat.reduceAdd, Nat.reduceLeDiff, Nat.reduceEqDiff, Nat.reduceMul, Int.reduceToNat, reduceIte, Int.reduceLE, Int.reduceNeg, killS_app, A.kill, jq, b4q, b6q, if_false, h0, h4, h6, hm4, hm6, cExpr, cShape]; rfl) ?_
      refine runk_callE (D := [q]) rfl rfl rfl rfl rfl (fun i hi => by simp at hi; subst hi; exact nkq) (by simp) (cvs_cons cv_refl (cvs_cons cv_refl cvs_nil)) (layM h1 true (bs' ++ exprX ⟨yk, yn, ym, ys⟩ 3) [⟨#[32, 42, 32]⟩] (by simp) (Nat.le_of_ble_eq_true rfl) (by have hf := hfit; simp [txtB] at hf ⊢; omega)) ?_
      simp only [killL, putS]
      refine runk_exec (by simp only [exa, beq_self_eq_true, ByteArray.size, Nat.reduceAdd, Nat.reduceLeDiff, Nat.reduceEqDiff, Nat.reduceMul, Int.reduceToNat, reduceIte, Int.reduceLE, Int.reduceNeg]; rfl) ?_
      (repeat (first | refine W.seq ?_ | refine W.block ?_ | refine W.skip ?_))
      refine W.regionDK tab_ok b follows_mixed (by kernel_rfl) (by decide) ?_
      refine runk_split 8 (by simp only [exa, beq_self_eq_true, ByteArray.size, Nat.reduceAdd, Nat.reduceLeDiff, Nat.reduceEqDiff, Nat.reduceMul, Int.reduceToNat, reduceIte, Int.reduceLE, Int.reduceNeg, killS_app, A.kill, jq, b4q, b6q, if_false, h0, h4, h6, hm4, hm6, cExpr, cShape, cExprs]; rfl) ?_
      refine runk_callE (D := [q]) rfl rfl rfl rfl rfl (fun i hi => by simp at hi; subst hi; exact nkq) (by simp) (cvs_cons cv_refl (cvs_cons cv_refl (cvs_cons cv_refl cvs_nil))) (exprM h1 f1 (hE ⟨zk, zn, zm, zs⟩ (by simp)) true (bs' ++ exprX ⟨yk, yn, ym, ys⟩ 3 ++ txtB [⟨#[32, 42, 32]⟩]) 4 (by have hf := hfit; simp [txtB] at hf ⊢; omega)) ?_
      simp only [killL, putS]
      refine runk_exec (by simp only [exa, beq_self_eq_true, ByteArray.size, Nat.reduceAdd, Nat.reduceLeDiff, Nat.reduceEqDiff, Nat.reduceMul, Int.reduceToNat, reduceIte, Int.reduceLE, Int.reduceNeg]; rfl) ?_
      refine fin _ _ (by simp [txtB]) ?_
      repeat (first | exact keeps_refl _ | refine keeps_upd (by decide) ?_ | refine keeps_kill h1.ne ?_)
    · obtain ⟨⟨yk, yn, ym, ys⟩, ⟨zk, zn, zm, zs⟩, rfl⟩ : ∃ y y2, kids = [y, y2] := len2' hlo hhi
      have hT : textX ⟨16, n, nm, [⟨yk, yn, ym, ys⟩, ⟨zk, zn, zm, zs⟩]⟩ = exprX ⟨yk, yn, ym, ys⟩ 3 ++ [32, 47, 32] ++ exprX ⟨zk, zn, zm, zs⟩ 4 := by
        rw [textX_eq, ← kidX_at (l := [⟨yk, yn, ym, ys⟩, ⟨zk, zn, zm, zs⟩]) (i := 0) rfl, ← kidX_at (l := [⟨yk, yn, ym, ys⟩, ⟨zk, zn, zm, zs⟩]) (i := 1) rfl]; rfl
      rw [hT] at hfit fin
      have hlv : (shapeOf 16).1.level = 3 := rfl
      have hsg : (shapeOf 16).1.sign = ⟨#[32, 47, 32]⟩ := rfl
      rw [hlv, hsg] at hm6
      repeat (first | refine W.seq ?_ | refine W.block ?_ | refine W.skip ?_ | refine W.exit ?_ | refine W.region tab_ok b (by decide) (exec_run (by simp only [exa, beq_self_eq_true, ByteArray.size, Nat.reduceAdd, Nat.reduceLeDiff, Nat.reduceEqDiff, Nat.reduceMul, Int.reduceToNat, reduceIte, Int.reduceLE, Int.reduceNeg, h0, h4, h6, hm4, hm6]; rfl)) ?_)
      iterate 12 (refine W.cond rfl (fun h => absurd h (by decide)) (fun _ => ?_); repeat (first | refine W.seq ?_ | refine W.block ?_ | refine W.skip ?_ | refine W.exit ?_ | refine W.region tab_ok b (by decide) (exec_run (by simp only [exa, beq_self_eq_true, ByteArray.size, Nat.reduceAdd, Nat.reduceLeDiff, Nat.reduceEqDiff, Nat.reduceMul, Int.reduceToNat, reduceIte, Int.reduceLE, Int.reduceNeg, h0, h4, h6, hm4, hm6]; rfl)) ?_))
      refine W.regionDK tab_ok b follows_mixed (by kernel_rfl) (by decide) ?_
      refine runk_split 8 (by simp only [exa, beq_self_eq_true, ByteArray.size, Nat.reduceAdd, Nat.reduceLeDiff, Nat.reduceEqDiff, Nat.reduceMul, Int.reduceToNat, reduceIte, Int.reduceLE, Int.reduceNeg, killS_app, A.kill, jq, b4q, b6q, if_false, h0, h4, h6, hm4, hm6, cExpr, cShape, cExprs]; rfl) ?_
      refine runk_callE (D := [q]) rfl rfl rfl rfl rfl (fun i hi => by simp at hi; subst hi; exact nkq) (by simp) (cvs_cons cv_refl (cvs_cons cv_refl (cvs_cons cv_refl cvs_nil))) (exprM h1 f1 (hE ⟨yk, yn, ym, ys⟩ (by simp)) u' bs' 3 (by have hf := hfit; simp [txtB] at hf ⊢; omega)) ?_
      simp only [killL, putS]
      refine runk_exec (by simp only [exa, beq_self_eq_true, ByteArray.size, Nat.reduceAdd, Nat.reduceLeDiff, Nat.reduceEqDiff, Nat.reduceMul, Int.reduceToNat, reduceIte, Int.reduceLE, Int.reduceNeg]; rfl) ?_
      (repeat (first | refine W.seq ?_ | refine W.block ?_ | refine W.skip ?_))
      refine W.regionK tab_ok b (by decide) ?_
      refine runk_split 4 (by simp only [exa, beq_self_eq_true, ByteArray.size, Nat.reduceAdd, Nat.reduceLeDiff, Nat.reduceEqDiff, Nat.reduceMul, Int.reduceToNat, reduceIte, Int.reduceLE, Int.reduceNeg, killS_app, A.kill, jq, b4q, b6q, if_false, h0, h4, h6, hm4, hm6, cExpr, cShape]; rfl) ?_
      refine runk_callE (D := [q]) rfl rfl rfl rfl rfl (fun i hi => by simp at hi; subst hi; exact nkq) (by simp) (cvs_cons cv_refl (cvs_cons cv_refl cvs_nil)) (layM h1 true (bs' ++ exprX ⟨yk, yn, ym, ys⟩ 3) [⟨#[32, 47, 32]⟩] (by simp) (Nat.le_of_ble_eq_true rfl) (by have hf := hfit; simp [txtB] at hf ⊢; omega)) ?_
      simp only [killL, putS]
      refine runk_exec (by simp only [exa, beq_self_eq_true, ByteArray.size, Nat.reduceAdd, Nat.reduceLeDiff, Nat.reduceEqDiff, Nat.reduceMul, Int.reduceToNat, reduceIte, Int.reduceLE, Int.reduceNeg]; rfl) ?_
      (repeat (first | refine W.seq ?_ | refine W.block ?_ | refine W.skip ?_))
      refine W.regionDK tab_ok b follows_mixed (by kernel_rfl) (by decide) ?_
      refine runk_split 8 (by simp only [exa, beq_self_eq_true, ByteArray.size, Nat.reduceAdd, Nat.reduceLeDiff, Nat.reduceEqDiff, Nat.reduceMul, Int.reduceToNat, reduceIte, Int.reduceLE, Int.reduceNeg, killS_app, A.kill, jq, b4q, b6q, if_false, h0, h4, h6, hm4, hm6, cExpr, cShape, cExprs]; rfl) ?_
      refine runk_callE (D := [q]) rfl rfl rfl rfl rfl (fun i hi => by simp at hi; subst hi; exact nkq) (by simp) (cvs_cons cv_refl (cvs_cons cv_refl (cvs_cons cv_refl cvs_nil))) (exprM h1 f1 (hE ⟨zk, zn, zm, zs⟩ (by simp)) true (bs' ++ exprX ⟨yk, yn, ym, ys⟩ 3 ++ txtB [⟨#[32, 47, 32]⟩]) 4 (by have hf := hfit; simp [txtB] at hf ⊢; omega)) ?_
      simp only [killL, putS]
      refine runk_exec (by simp only [exa, beq_self_eq_true, ByteArray.size, Nat.reduceAdd, Nat.reduceLeDiff, Nat.reduceEqDiff, Nat.reduceMul, Int.reduceToNat, reduceIte, Int.reduceLE, Int.reduceNeg]; rfl) ?_
      refine fin _ _ (by simp [txtB]) ?_
      repeat (first | exact keeps_refl _ | refine keeps_upd (by decide) ?_ | refine keeps_kill h1.ne ?_)
    · obtain ⟨⟨yk, yn, ym, ys⟩, ⟨zk, zn, zm, zs⟩, rfl⟩ : ∃ y y2, kids = [y, y2] := len2' hlo hhi
      have hT : textX ⟨17, n, nm, [⟨yk, yn, ym, ys⟩, ⟨zk, zn, zm, zs⟩]⟩ = exprX ⟨yk, yn, ym, ys⟩ 2 ++ [32, 60, 32] ++ exprX ⟨zk, zn, zm, zs⟩ 2 := by
        rw [textX_eq, ← kidX_at (l := [⟨yk, yn, ym, ys⟩, ⟨zk, zn, zm, zs⟩]) (i := 0) rfl, ← kidX_at (l := [⟨yk, yn, ym, ys⟩, ⟨zk, zn, zm, zs⟩]) (i := 1) rfl]; rfl
      rw [hT] at hfit fin
      have hlv : (shapeOf 17).1.level = 1 := rfl
      have hsg : (shapeOf 17).1.sign = ⟨#[32, 60, 32]⟩ := rfl
      rw [hlv, hsg] at hm6
      repeat (first | refine W.seq ?_ | refine W.block ?_ | refine W.skip ?_ | refine W.exit ?_ | refine W.region tab_ok b (by decide) (exec_run (by simp only [exa, beq_self_eq_true, ByteArray.size, Nat.reduceAdd, Nat.reduceLeDiff, Nat.reduceEqDiff, Nat.reduceMul, Int.reduceToNat, reduceIte, Int.reduceLE, Int.reduceNeg, h0, h4, h6, hm4, hm6]; rfl)) ?_)
      iterate 12 (refine W.cond rfl (fun h => absurd h (by decide)) (fun _ => ?_); repeat (first | refine W.seq ?_ | refine W.block ?_ | refine W.skip ?_ | refine W.exit ?_ | refine W.region tab_ok b (by decide) (exec_run (by simp only [exa, beq_self_eq_true, ByteArray.size, Nat.reduceAdd, Nat.reduceLeDiff, Nat.reduceEqDiff, Nat.reduceMul, Int.reduceToNat, reduceIte, Int.reduceLE, Int.reduceNeg, h0, h4, h6, hm4, hm6]; rfl)) ?_))
      refine W.regionDK tab_ok b follows_mixed (by kernel_rfl) (by decide) ?_
      refine runk_split 8 (by simp only [exa, beq_self_eq_true, ByteArray.size, Nat.reduceAdd, Nat.reduceLeDiff, Nat.reduceEqDiff, Nat.reduceMul, Int.reduceToNat, reduceIte, Int.reduceLE, Int.reduceNeg, killS_app, A.kill, jq, b4q, b6q, if_false, h0, h4, h6, hm4, hm6, cExpr, cShape, cExprs]; rfl) ?_
      refine runk_callE (D := [q]) rfl rfl rfl rfl rfl (fun i hi => by simp at hi; subst hi; exact nkq) (by simp) (cvs_cons cv_refl (cvs_cons cv_refl (cvs_cons cv_refl cvs_nil))) (exprM h1 f1 (hE ⟨yk, yn, ym, ys⟩ (by simp)) u' bs' 2 (by have hf := hfit; simp [txtB] at hf ⊢; omega)) ?_
      simp only [killL, putS]
      refine runk_exec (by simp only [exa, beq_self_eq_true, ByteArray.size, Nat.reduceAdd, Nat.reduceLeDiff, Nat.reduceEqDiff, Nat.reduceMul, Int.reduceToNat, reduceIte, Int.reduceLE, Int.reduceNeg]; rfl) ?_
      (repeat (first | refine W.seq ?_ | refine W.block ?_ | refine W.skip ?_))
      refine W.regionK tab_ok b (by decide) ?_
      refine runk_split 4 (by simp only [exa, beq_self_eq_true, ByteArray.size, Nat.reduceAdd, Nat.reduceLeDiff, Nat.reduceEqDiff, Nat.reduceMul, Int.reduceToNat, reduceIte, Int.reduceLE, Int.reduceNeg, killS_app, A.kill, jq, b4q, b6q, if_false, h0, h4, h6, hm4, hm6, cExpr, cShape]; rfl) ?_
      refine runk_callE (D := [q]) rfl rfl rfl rfl rfl (fun i hi => by simp at hi; subst hi; exact nkq) (by simp) (cvs_cons cv_refl (cvs_cons cv_refl cvs_nil)) (layM h1 true (bs' ++ exprX ⟨yk, yn, ym, ys⟩ 2) [⟨#[32, 60, 32]⟩] (by simp) (Nat.le_of_ble_eq_true rfl) (by have hf := hfit; simp [txtB] at hf ⊢; omega)) ?_
      simp only [killL, putS]
      refine runk_exec (by simp only [exa, beq_self_eq_true, ByteArray.size, Nat.reduceAdd, Nat.reduceLeDiff, Nat.reduceEqDiff, Nat.reduceMul, Int.reduceToNat, reduceIte, Int.reduceLE, Int.reduceNeg]; rfl) ?_
      (repeat (first | refine W.seq ?_ | refine W.block ?_ | refine W.skip ?_))
      refine W.regionDK tab_ok b follows_mixed (by kernel_rfl) (by decide) ?_
      refine runk_split 8 (by simp only [exa, beq_self_eq_true, ByteArray.size, Nat.reduceAdd, Nat.reduceLeDiff, Nat.reduceEqDiff, Nat.reduceMul, Int.reduceToNat, reduceIte, Int.reduceLE, Int.reduceNeg, killS_app, A.kill, jq, b4q, b6q, if_false, h0, h4, h6, hm4, hm6, cExpr, cShape, cExprs]; rfl) ?_
      refine runk_callE (D := [q]) rfl rfl rfl rfl rfl (fun i hi => by simp at hi; subst hi; exact nkq) (by simp) (cvs_cons cv_refl (cvs_cons cv_refl (cvs_cons cv_refl cvs_nil))) (exprM h1 f1 (hE ⟨zk, zn, zm, zs⟩ (by simp)) true (bs' ++ exprX ⟨yk, yn, ym, ys⟩ 2 ++ txtB [⟨#[32, 60, 32]⟩]) 2 (by have hf := hfit; simp [txtB] at hf ⊢; omega)) ?_
      simp only [killL, putS]
      refine runk_exec (by simp only [exa, beq_self_eq_true, ByteArray.size, Nat.reduceAdd, Nat.reduceLeDiff, Nat.reduceEqDiff, Nat.reduceMul, Int.reduceToNat, reduceIte, Int.reduceLE, Int.reduceNeg]; rfl) ?_
      refine fin _ _ (by simp [txtB]) ?_
      repeat (first | exact keeps_refl _ | refine keeps_upd (by decide) ?_ | refine keeps_kill h1.ne ?_)
    · obtain ⟨⟨yk, yn, ym, ys⟩, ⟨zk, zn, zm, zs⟩, rfl⟩ : ∃ y y2, kids = [y, y2] := len2' hlo hhi
      have hT : textX ⟨18, n, nm, [⟨yk, yn, ym, ys⟩, ⟨zk, zn, zm, zs⟩]⟩ = exprX ⟨yk, yn, ym, ys⟩ 2 ++ [32, 61, 61, 32] ++ exprX ⟨zk, zn, zm, zs⟩ 2 := by
        rw [textX_eq, ← kidX_at (l := [⟨yk, yn, ym, ys⟩, ⟨zk, zn, zm, zs⟩]) (i := 0) rfl, ← kidX_at (l := [⟨yk, yn, ym, ys⟩, ⟨zk, zn, zm, zs⟩]) (i := 1) rfl]; rfl
      rw [hT] at hfit fin
      have hlv : (shapeOf 18).1.level = 1 := rfl
      have hsg : (shapeOf 18).1.sign = ⟨#[32, 61, 61, 32]⟩ := rfl
      rw [hlv, hsg] at hm6
      repeat (first | refine W.seq ?_ | refine W.block ?_ | refine W.skip ?_ | refine W.exit ?_ | refine W.region tab_ok b (by decide) (exec_run (by simp only [exa, beq_self_eq_true, ByteArray.size, Nat.reduceAdd, Nat.reduceLeDiff, Nat.reduceEqDiff, Nat.reduceMul, Int.reduceToNat, reduceIte, Int.reduceLE, Int.reduceNeg, h0, h4, h6, hm4, hm6]; rfl)) ?_)
      iterate 12 (refine W.cond rfl (fun h => absurd h (by decide)) (fun _ => ?_); repeat (first | refine W.seq ?_ | refine W.block ?_ | refine W.skip ?_ | refine W.exit ?_ | refine W.region tab_ok b (by decide) (exec_run (by simp only [exa, beq_self_eq_true, ByteArray.size, Nat.reduceAdd, Nat.reduceLeDiff, Nat.reduceEqDiff, Nat.reduceMul, Int.reduceToNat, reduceIte, Int.reduceLE, Int.reduceNeg, h0, h4, h6, hm4, hm6]; rfl)) ?_))
      refine W.regionDK tab_ok b follows_mixed (by kernel_rfl) (by decide) ?_
      refine runk_split 8 (by simp only [exa, beq_self_eq_true, ByteArray.size, Nat.reduceAdd, Nat.reduceLeDiff, Nat.reduceEqDiff, Nat.reduceMul, Int.reduceToNat, reduceIte, Int.reduceLE, Int.reduceNeg, killS_app, A.kill, jq, b4q, b6q, if_false, h0, h4, h6, hm4, hm6, cExpr, cShape, cExprs]; rfl) ?_
      refine runk_callE (D := [q]) rfl rfl rfl rfl rfl (fun i hi => by simp at hi; subst hi; exact nkq) (by simp) (cvs_cons cv_refl (cvs_cons cv_refl (cvs_cons cv_refl cvs_nil))) (exprM h1 f1 (hE ⟨yk, yn, ym, ys⟩ (by simp)) u' bs' 2 (by have hf := hfit; simp [txtB] at hf ⊢; omega)) ?_
      simp only [killL, putS]
      refine runk_exec (by simp only [exa, beq_self_eq_true, ByteArray.size, Nat.reduceAdd, Nat.reduceLeDiff, Nat.reduceEqDiff, Nat.reduceMul, Int.reduceToNat, reduceIte, Int.reduceLE, Int.reduceNeg]; rfl) ?_
      (repeat (first | refine W.seq ?_ | refine W.block ?_ | refine W.skip ?_))
      refine W.regionK tab_ok b (by decide) ?_
      refine runk_split 4 (by simp only [exa, beq_self_eq_true, ByteArray.size, Nat.reduceAdd, Nat.reduceLeDiff, Nat.reduceEqDiff, Nat.reduceMul, Int.reduceToNat, reduceIte, Int.reduceLE, Int.reduceNeg, killS_app, A.kill, jq, b4q, b6q, if_false, h0, h4, h6, hm4, hm6, cExpr, cShape]; rfl) ?_
      refine runk_callE (D := [q]) rfl rfl rfl rfl rfl (fun i hi => by simp at hi; subst hi; exact nkq) (by simp) (cvs_cons cv_refl (cvs_cons cv_refl cvs_nil)) (layM h1 true (bs' ++ exprX ⟨yk, yn, ym, ys⟩ 2) [⟨#[32, 61, 61, 32]⟩] (by simp) (Nat.le_of_ble_eq_true rfl) (by have hf := hfit; simp [txtB] at hf ⊢; omega)) ?_
      simp only [killL, putS]
      refine runk_exec (by simp only [exa, beq_self_eq_true, ByteArray.size, Nat.reduceAdd, Nat.reduceLeDiff, Nat.reduceEqDiff, Nat.reduceMul, Int.reduceToNat, reduceIte, Int.reduceLE, Int.reduceNeg]; rfl) ?_
      (repeat (first | refine W.seq ?_ | refine W.block ?_ | refine W.skip ?_))
      refine W.regionDK tab_ok b follows_mixed (by kernel_rfl) (by decide) ?_
      refine runk_split 8 (by simp only [exa, beq_self_eq_true, ByteArray.size, Nat.reduceAdd, Nat.reduceLeDiff, Nat.reduceEqDiff, Nat.reduceMul, Int.reduceToNat, reduceIte, Int.reduceLE, Int.reduceNeg, killS_app, A.kill, jq, b4q, b6q, if_false, h0, h4, h6, hm4, hm6, cExpr, cShape, cExprs]; rfl) ?_
      refine runk_callE (D := [q]) rfl rfl rfl rfl rfl (fun i hi => by simp at hi; subst hi; exact nkq) (by simp) (cvs_cons cv_refl (cvs_cons cv_refl (cvs_cons cv_refl cvs_nil))) (exprM h1 f1 (hE ⟨zk, zn, zm, zs⟩ (by simp)) true (bs' ++ exprX ⟨yk, yn, ym, ys⟩ 2 ++ txtB [⟨#[32, 61, 61, 32]⟩]) 2 (by have hf := hfit; simp [txtB] at hf ⊢; omega)) ?_
      simp only [killL, putS]
      refine runk_exec (by simp only [exa, beq_self_eq_true, ByteArray.size, Nat.reduceAdd, Nat.reduceLeDiff, Nat.reduceEqDiff, Nat.reduceMul, Int.reduceToNat, reduceIte, Int.reduceLE, Int.reduceNeg]; rfl) ?_
      refine fin _ _ (by simp [txtB]) ?_
      repeat (first | exact keeps_refl _ | refine keeps_upd (by decide) ?_ | refine keeps_kill h1.ne ?_)
end V
end Go.Proofs.YtbmbmcdaabhgnaaDoor
end
section
set_option linter.unusedVariables false
set_option linter.unusedSimpArgs false
namespace Go.Proofs.YtbmbmcdaabhgnaaDoor
open Go.RowKit
set_option maxHeartbeats 2000000 in
set_option maxRecDepth 100000 in
theorem string_run (b g cap : Nat) (p t : Value) (cur : Array Value) (l : List UInt8) (w : World) (h0 : l ≠ []) (hbk : w.heap[b]? = some (.cells #[p, .slice (some ⟨g, 0, none⟩) l.length cap, t] 47 (0, 0))) (hg : w.heap[g]? = some (.cells cur 5 (0, 0)))
    (hnc : l.length ≤ cap) (hcm : cap ≤ maxLen) (hcs : cur.size = cap) (hcell : ∀ j x, l[j]? = some x → w.cell? ((⟨g, 0, none⟩ : Addr).add j) = some (.int .u8 x.toNat)) :
    Calls Tryd.prog 42 #[.pointer (some ⟨b, 0, none⟩)] w fun e w' => e = .returned (.string ⟨l.toArray⟩) ∧ w' = w.drew.freeze ⟨g, 0, none⟩ l.length := by
  have hl0 : l.length ≠ 0 := by simpa using h0
  have c1 : w.drew.cell? ⟨b, 1, none⟩ = some (.slice (some ⟨g, 0, none⟩) l.length cap) := by
    have : w.drew.heap[b]? = some (.cells #[p, .slice (some ⟨g, 0, none⟩) l.length cap, t] 47 (0, 0)) := hbk
    rw [Lib.cell_of_heap this]; rfl
  have hSD : (Builtin.unsafeSliceData_ #[43] 102 #[.slice (some ⟨g, 0, none⟩) l.length cap]).run Tryd.prog w.drew = .ok (.pointer (some ⟨g, 0, none⟩)) w.drew :=
    Lib.run_unsafeSliceData_row _ _ _ _ _ _ (by omega)
  have hUS : (Builtin.unsafeString_ #[102, 3] 9 #[.pointer (some ⟨g, 0, none⟩), .int .i64 l.length]).run Tryd.prog w.drew = .ok (.string ⟨l.toArray⟩) (w.drew.freeze ⟨g, 0, none⟩ l.length) := by
    refine Lib.run_unsafeString_row w.drew 102 3 9 5 Tryd.underlying102 (by kernel_rfl) g cur.size (by have hg' : w.drew.heap[g]? = some (.cells cur 5 (0, 0)) := hg; simp [World.shape?, hg']) l h0 (by omega) (by unfold maxLen at hcm; omega) ?_
    intro j x hx
    exact hcell j x hx
  clear hcell
  have mixed := V.follows_mixed
  go_enter Tryd.func42, Tryd.ntmps42
  go_wp2
  go_region_o
  all_goals (go_wp2; go_ret; exact ⟨rfl, rfl⟩)
namespace V
theorem freeze_cell (w : World) (a : Addr) (n : Nat) (p : Addr) : (w.freeze a n).cell? p = w.cell? p := by
  unfold World.freeze
  split
  · rfl
  · unfold World.cell?
    simp only [Array.getElem?_modify]
    by_cases e : a.block = p.block
    · rw [if_pos e]
      cases hh : w.heap[p.block]? with
      | none => rfl
      | some o => cases o <;> rfl
    · rw [if_neg e]
theorem freeze_other (w : World) (a : Addr) (n k : Nat) (h : k ≠ a.block) : (w.freeze a n).heap[k]? = w.heap[k]? := by
  unfold World.freeze
  split
  · rfl
  · simp only [Array.getElem?_modify]
    rw [if_neg (Ne.symm h)]
theorem flat_bytes : ∀ l : List UInt8, flat (cBytes l) = l.map fun b => C.int .u8 b.toNat
  | [] => rfl
  | y :: l => by
    have ih := flat_bytes l
    unfold flat cBytes at ih ⊢
    simp only [List.map_cons, List.flatten_cons, List.singleton_append]
    rw [ih]
theorem gone_wf {M : Mem} {q : Nat} (hw : WFm M) (hq : (M q).isSome = true) : WFm (upd (killM q M) q (some .gone)) := by
  have liv : ∀ i, (M i).isSome = true → (upd (killM q M) q (some O.gone) i).isSome = true := fun i hi => by
    unfold upd; split
    · rfl
    · simpa [killM_app] using hi
  intro i o ho k hk
  unfold upd at ho
  split at ho
  · cases ho; simp [O.ids] at hk
  · have ho : (M i).map (O.kill q) = some o := ho
    cases hm : M i with
    | none => rw [hm] at ho; cases ho
    | some o0 => rw [hm] at ho; cases ho; exact liv k (hw i o0 hm k (O.kill_ids k hk))
theorem string_ok {M : Mem} {j q : Nat} {u : Bool} {t : Int} {bs : List UInt8} (h : PgAt M j q u t bs) (h0 : bs ≠ []) (hlen : bs.length ≤ 140737488351232) : CallE Tryd.prog 42 [.ptr j 0] M [] (.c (.str ⟨bs.toArray⟩)) (upd (killM q M) q (some .gone)) := by
  have hqs : (M q).isSome = true := by rw [h.row]; rfl
  have liv : ∀ i, (M i).isSome = true → (upd (killM q M) q (some O.gone) i).isSome = true := fun i hi => by
    unfold upd; split
    · rfl
    · simpa [killM_app] using hi
  refine ⟨enters_of Tryd.func42 (by kernel_rfl) rfl, fun i hi => by simp [A.ids] at hi, liv, fun hw => gone_wf hw hqs, ?_⟩
  intro w0 I0 B I w vals hm hv
  match vals, hv with
  | [v], ⟨h1, _⟩ =>
    obtain ⟨b, vs, hB, hh, hvs, hno⟩ := hm.objs j _ h.box
    obtain ⟨b', hB', rfl⟩ := h1
    obtain rfl : b = b' := by rw [hB] at hB'; cases hB'; rfl
    obtain ⟨vsq, hown, hrc, hlx, hiff⟩ := hm.objs q _ h.row
    have hbl : (cBytes bs).length = bs.length := by unfold cBytes; rw [List.length_map]
    rw [hbl] at hown hiff
    match vs, hvs with
    | [x0, x1, x2], ⟨_, ⟨hx1, _⟩, _, _⟩ =>
      have hx1 : x1 = B q := hx1.1
      have hl0 : bs.length ≠ 0 := by simpa using h0
      rcases hown.2 with ⟨-, hz⟩ | ⟨g, cap, cur, hBq, hbg, hg, hnc, hcm, hcs, htake⟩
      · exact absurd hz hl0
      · rw [hBq] at hx1
        subst hx1
        have hcell : ∀ i x, bs[i]? = some x → w.cell? ((⟨g, 0, none⟩ : Addr).add i) = some (.int .u8 x.toNat) := by
          intro i x hx
          have hfl := flat_bytes bs
          rw [hfl] at hrc
          obtain ⟨v, hv1, hv2⟩ := hrc.at i (C.int .u8 x.toNat) (by simp [hx])
          rw [hBq] at hown
          have := hown.cells (g := g) rfl i v hv1
          rw [this, hv2.toInt.1]
        refine (string_run b g cap x0 x2 cur bs w h0 hh hg hnc hcm (by simpa using hcs) hcell).mono ?_
        rintro e w' ⟨rfl, rfl⟩
        have hE : Ext w (w.drew.freeze ⟨g, 0, none⟩ bs.length) I I := ⟨fun _ _ k => k, fun b o _ => by rw [freeze_cell]; rfl⟩
        have hfoot : ∀ k, foot B q (textB bs) k ↔ k = g := fun k => by
          show (B q).ownBlock = some k ↔ _
          rw [hBq]; simp [Value.ownBlock, eq_comm]
        have hr := hm.reval (id := q) (v' := B q) (o' := .gone) (w' := w.drew.freeze ⟨g, 0, none⟩ bs.length) (I' := I) h.row (by unfold World.freeze; split <;> rfl) (by unfold World.freeze; split <;> rfl) (by unfold World.freeze; split <;> rfl) (by unfold World.freeze; split; exact Nat.le_refl _; show w.heap.size ≤ (Array.modify w.drew.heap _ _).size; rw [Array.size_modify]; exact Nat.le_refl _) (fun b hb hnf => by
          rw [freeze_other _ _ _ _ (fun e => hnf ((hfoot b).2 e))]; rfl) (fun k hk => hk.elim) hE (fun _ _ k => .inl k) trivial (fun i hi => by simp [O.ids] at hi)
        have hBB : upd B q (B q) = B := upd_id B rfl
        rw [hBB] at hr
        exact ⟨_, B, I, rfl, hr, hE, fun _ _ _ => rfl, .str (by show bs.toArray.size ≤ maxStr; unfold maxStr; simpa using hlen)⟩
end V
end Go.Proofs.YtbmbmcdaabhgnaaDoor
end
section
set_option linter.unusedVariables false
set_option linter.unusedSimpArgs false
namespace Go.Proofs.YtbmbmcdaabhgnaaDoor
namespace V
open Go.RowKit
theorem len_ok {M : Mem} {j q : Nat} {u : Bool} {t : Int} {bs : List UInt8} (h : PgAt M j q u t bs) : CallE Tryd.prog 41 [.ptr j 0] M [] (.c (.int .i64 bs.length)) M := by
  have hjs : (M j).isSome = true := by rw [h.box]; rfl
  have hbx := h.box
  have hrw := h.row
  have hcb : (cBytes bs).length = bs.length := by unfold cBytes; rw [List.length_map]
  unfold pageB at hbx
  unfold textB at hrw
  refine (ok_eff tab_ok [] Tryd.func41 (by kernel_rfl) rfl rfl (by rfl) (by rfl) ?ids ?res ?sub ?wfm (fun hWF Rr hkeep => ?_))
  case ids => intro a ha i hi; simp at ha; subst ha; simp [A.ids] at hi; subst hi; exact hjs
  case res => intro i hi; simp [A.ids] at hi
  case sub => exact fun i hi => hi
  case wfm => exact fun hw => hw
  repeat (first | refine W.seq ?_ | refine W.block ?_ | refine W.skip ?_ | refine W.exit ?_ | refine W.region tab_ok 0 (by decide) (exec_run (by simp only [exa, beq_self_eq_true, ByteArray.size, Nat.reduceAdd, Nat.reduceLeDiff, Nat.reduceEqDiff, Nat.reduceMul, Int.reduceToNat, reduceIte, Int.reduceLE, Int.reduceNeg, hbx, hrw, hcb]; rfl)) ?_)
  refine W.ret ⟨.inr rfl, by rfl, ?_, ?mle⟩
  simp only [Tryd.f41, resE, resOne, fin, toT, exa, beq_self_eq_true, ByteArray.size, Nat.reduceAdd, Nat.reduceLeDiff, Nat.reduceEqDiff, Nat.reduceMul, Int.reduceToNat, reduceIte, Int.reduceLE, Int.reduceNeg]
  case mle => exact mle_refl _
def pgDoneM (M : Mem) (q : Nat) (bs : List UInt8) : Mem := if 8192 < bs.length then M else upd (killM q M) q (some .gone)
def pgDoneR (bs : List UInt8) : A := if 8192 < bs.length then .tupA [.c (.str ⟨#[]⟩), .c (.int .i64 2)] else .tupA [.c (.str ⟨bs.toArray⟩), .c (.int .i64 0)]
theorem done_ok {M : Mem} {j q : Nat} {u : Bool} {t : Int} {bs : List UInt8} (h : PgAt M j q u t bs) (h0 : bs ≠ []) (hlen : bs.length ≤ 140737488351232) : CallE Tryd.prog 17 [.ptr j 0] M [] (pgDoneR bs) (pgDoneM M q bs) := by
  have hjs : (M j).isSome = true := by rw [h.box]; rfl
  have hqs : (M q).isSome = true := by rw [h.row]; rfl
  refine (ok_eff tab_ok [] Tryd.func17 (by kernel_rfl) rfl rfl (by rfl) (by rfl) ?ids ?res ?sub ?wfm (fun hWF Rr hkeep => ?_))
  case ids => intro a ha i hi; simp at ha; subst ha; simp [A.ids] at hi; subst hi; exact hjs
  case res => intro i hi; unfold pgDoneR at hi; split at hi <;> simp [A.ids, A1.ids] at hi
  case sub =>
    intro i hi
    unfold pgDoneM
    split
    · exact hi
    · unfold upd; split
      · rfl
      · simpa [killM_app] using hi
  case wfm => intro hw; unfold pgDoneM; split; exact hw; exact gone_wf hw hqs
  repeat (first | refine W.seq ?_ | refine W.block ?_ | refine W.skip ?_ | refine W.exit ?_ | refine W.region tab_ok 0 (by decide) (exec_run (by simp only [exa, beq_self_eq_true, ByteArray.size, Nat.reduceAdd, Nat.reduceLeDiff, Nat.reduceEqDiff, Nat.reduceMul, Int.reduceToNat, reduceIte, Int.reduceLE, Int.reduceNeg]; rfl)) ?_)
  (repeat (first | refine W.seq ?_ | refine W.block ?_ | refine W.skip ?_))
  refine W.regionK tab_ok 0 (by decide) ?_
  refine runk_split 3 (by simp only [exa, beq_self_eq_true, ByteArray.size, Nat.reduceAdd, Nat.reduceLeDiff, Nat.reduceEqDiff, Nat.reduceMul, Int.reduceToNat, reduceIte, Int.reduceLE, Int.reduceNeg]; rfl) ?_
  refine runk_callE (D := []) rfl rfl rfl rfl rfl (fun j hj => by simp at hj) (by simp) (cvs_cons cv_refl cvs_nil) (len_ok h) ?_
  simp only [killL, putS, upd_upd]
  refine runk_exec (by simp only [exa, beq_self_eq_true, ByteArray.size, Nat.reduceAdd, Nat.reduceLeDiff, Nat.reduceEqDiff, Nat.reduceMul, Int.reduceToNat, reduceIte, Int.reduceLE, Int.reduceNeg]; rfl) ?_
  (repeat (first | refine W.seq ?_ | refine W.block ?_ | refine W.skip ?_))
  refine W.cond rfl ?_ ?_
  · intro hc
    have hc : 8192 < bs.length := by have := of_decide_eq_true hc; omega
    repeat (first | refine W.seq ?_ | refine W.block ?_ | refine W.skip ?_ | refine W.exit ?_ | refine W.region tab_ok 0 (by decide) (exec_run (by simp only [exa, beq_self_eq_true, ByteArray.size, Nat.reduceAdd, Nat.reduceLeDiff, Nat.reduceEqDiff, Nat.reduceMul, Int.reduceToNat, reduceIte, Int.reduceLE, Int.reduceNeg]; rfl)) ?_)
    refine W.ret ⟨.inr rfl, by rfl, ?_, ?mle⟩
    simp only [Tryd.f17, resE, resOne, fin, toT, exa, beq_self_eq_true, ByteArray.size, Nat.reduceAdd, Nat.reduceLeDiff, Nat.reduceEqDiff, Nat.reduceMul, Int.reduceToNat, reduceIte, Int.reduceLE, Int.reduceNeg]
    · simp only [pgDoneR, if_pos hc]
    case mle => unfold pgDoneM; rw [if_pos hc]; exact mle_refl _
  · intro hc
    have hc : ¬ 8192 < bs.length := by have := of_decide_eq_false hc; omega
    (repeat (first | refine W.seq ?_ | refine W.block ?_ | refine W.skip ?_))
    refine W.regionK tab_ok 0 (by decide) ?_
    refine runk_split 3 (by simp only [exa, beq_self_eq_true, ByteArray.size, Nat.reduceAdd, Nat.reduceLeDiff, Nat.reduceEqDiff, Nat.reduceMul, Int.reduceToNat, reduceIte, Int.reduceLE, Int.reduceNeg]; rfl) ?_
    refine runk_callE (D := []) rfl rfl rfl rfl rfl (fun j hj => by simp at hj) (by simp) (cvs_cons cv_refl cvs_nil) (string_ok h h0 hlen) ?_
    simp only [killL, putS, upd_upd]
    refine runk_exec (by simp only [exa, beq_self_eq_true, ByteArray.size, Nat.reduceAdd, Nat.reduceLeDiff, Nat.reduceEqDiff, Nat.reduceMul, Int.reduceToNat, reduceIte, Int.reduceLE, Int.reduceNeg]; rfl) ?_
    (repeat (first | refine W.seq ?_ | refine W.block ?_ | refine W.skip ?_))
    refine W.ret ⟨.inr rfl, by rfl, ?_, ?mle⟩
    simp only [Tryd.f17, resE, resOne, fin, toT, exa, beq_self_eq_true, ByteArray.size, Nat.reduceAdd, Nat.reduceLeDiff, Nat.reduceEqDiff, Nat.reduceMul, Int.reduceToNat, reduceIte, Int.reduceLE, Int.reduceNeg]
    · simp only [pgDoneR, if_neg hc]
    case mle => unfold pgDoneM; rw [if_neg hc]; exact mle_refl _
end V
end Go.Proofs.YtbmbmcdaabhgnaaDoor
end
section
set_option linter.unusedVariables false
set_option linter.unusedSimpArgs false
namespace Go.Proofs.YtbmbmcdaabhgnaaDoor
namespace V
open Go.RowKit
def showX (x : Expr) : ByteArray × Int := if exprB x then (if 8192 < (exprX x 1).length then (⟨#[]⟩, 2) else (⟨(exprX x 1).toArray⟩, 0)) else (⟨#[]⟩, 30)
theorem dec_ne (u : Nat) : Lib.decDigits u ≠ [] := by
  unfold Lib.decDigits
  split <;> simp
theorem itoa_ne (n : Int) : Lib.itoa n ≠ [] := by
  unfold Lib.itoa
  split
  · simp
  · exact dec_ne _
theorem textX_ne {x : Expr} (hx : exprB x = true) : textX x ≠ [] := by
  obtain ⟨k, n, nm, kids⟩ := x
  rw [exprB_eq] at hx
  obtain ⟨htop, -⟩ := Bool.and_eq_true_iff.1 hx
  rw [exprTop_eq] at htop
  simp only [Bool.and_eq_true, decide_eq_true_eq] at htop
  obtain ⟨⟨⟨⟨⟨hkk, hlo⟩, hhi⟩, hn0⟩, hn1⟩, hnm⟩ := htop
  rw [textX_eq]
  dsimp only
  unfold bodyX
  by_cases e1 : k = 1
  · rw [if_pos e1]; exact itoa_ne n
  rw [if_neg e1]
  by_cases e4 : k = 4
  · subst e4
    rw [if_neg (by decide), if_neg (by decide), if_pos rfl]
    have hnm : isNameB nm = true := hnm
    intro e
    rw [isNameB, e] at hnm
    simp at hnm
  by_cases e2 : k = 2
  · rw [if_pos e2]; simp
  rw [if_neg e2]
  by_cases e3 : k = 3
  · rw [if_pos e3]; simp
  rw [if_neg e3, if_neg e4]
  by_cases e5 : k = 5
  · rw [if_pos e5]; simp
  rw [if_neg e5]
  by_cases e6 : k = 6
  · rw [if_pos e6]; simp
  rw [if_neg e6]
  by_cases e7 : k = 7
  · rw [if_pos e7]; simp
  rw [if_neg e7]
  by_cases e8 : k = 8
  · rw [if_pos e8]; simp
  rw [if_neg e8]
  by_cases e9 : k = 9
  · rw [if_pos e9]; simp
  rw [if_neg e9]
  by_cases e10 : k = 10
  · rw [if_pos e10]; simp
  rw [if_neg e10]
  by_cases e11 : k = 11
  · rw [if_pos e11]; simp
  rw [if_neg e11]
  by_cases e12 : k = 12
  · rw [if_pos e12]; simp
  rw [if_neg e12]
  have hkr : 1 ≤ k ∧ k ≤ 18 := by
    by_cases hk : 1 ≤ k ∧ k ≤ 18
    · exact hk
    · unfold shapeOf at hkk; rw [if_neg hk] at hkk; cases hkk
  have : k = 13 ∨ k = 14 ∨ k = 15 ∨ k = 16 ∨ k = 17 ∨ k = 18 := by omega
  rcases this with rfl | rfl | rfl | rfl | rfl | rfl <;> simp [shapeOf, shapes]
theorem exprX_ne {x : Expr} (hx : exprB x = true) (want : Int) : exprX x want ≠ [] := by
  rw [exprX_of]
  split
  · simp
  · exact textX_ne hx
theorem showX_ok (x : Expr) (hs : exprB x = true → (exprX x 1).length ≤ 140737488351232) (m : Mem) : COk Tryd.prog 7 [.agg (cExpr x)] m (.tup [(false, [.str (showX x).1]), (false, [.int .i64 (showX x).2])]) := by
  refine (ok_pure tab_ok Tryd.func7 (by kernel_rfl) rfl rfl (by rfl) (by rfl) (by rfl) (fun R hkeep => ?_) m)
  obtain ⟨k, n, nm, kids⟩ := x
  repeat (first | refine W.seq ?_ | refine W.block ?_ | refine W.skip ?_ | refine W.exit ?_ | refine W.region tab_ok 0 (by decide) (exec_run (by simp only [exa, beq_self_eq_true, ByteArray.size, Nat.reduceAdd, Nat.reduceLeDiff, Nat.reduceEqDiff, Nat.reduceMul, Int.reduceToNat, reduceIte, Int.reduceLE, Int.reduceNeg, cExpr]; rfl)) ?_)
  refine W.regionK tab_ok 0 (by decide) ?_
  refine runk_split 1 (by simp only [exa, beq_self_eq_true, ByteArray.size, Nat.reduceAdd, Nat.reduceLeDiff, Nat.reduceEqDiff, Nat.reduceMul, Int.reduceToNat, reduceIte, Int.reduceLE, Int.reduceNeg, cExpr]; rfl) ?_
  refine runk_call rfl rfl rfl rfl rfl (by simp) (cvs_cons cv_refl cvs_nil) (expr_ok ⟨k, n, nm, kids⟩ _) ?_
  refine runk_exec (by simp only [exa, beq_self_eq_true, ByteArray.size, Nat.reduceAdd, Nat.reduceLeDiff, Nat.reduceEqDiff, Nat.reduceMul, Int.reduceToNat, reduceIte, Int.reduceLE, Int.reduceNeg]; rfl) ?_
  repeat (first | refine W.seq ?_ | refine W.block ?_ | refine W.skip ?_ | refine W.exit ?_ | refine W.region tab_ok 0 (by decide) (exec_run (by simp only [exa, beq_self_eq_true, ByteArray.size, Nat.reduceAdd, Nat.reduceLeDiff, Nat.reduceEqDiff, Nat.reduceMul, Int.reduceToNat, reduceIte, Int.reduceLE, Int.reduceNeg]; rfl)) ?_)
  refine W.cond rfl ?_ ?_
  · intro hb
    have hb : exprB ⟨k, n, nm, kids⟩ = false := by simpa using hb
    repeat (first | refine W.seq ?_ | refine W.block ?_ | refine W.skip ?_ | refine W.exit ?_ | refine W.region tab_ok 0 (by decide) (exec_run (by simp only [exa, beq_self_eq_true, ByteArray.size, Nat.reduceAdd, Nat.reduceLeDiff, Nat.reduceEqDiff, Nat.reduceMul, Int.reduceToNat, reduceIte, Int.reduceLE, Int.reduceNeg]; rfl)) ?_)
    refine W.ret ⟨.inr rfl, by rfl, ?_⟩
    simp only [Tryd.f7, resA, resOne, toT, fin, exa, beq_self_eq_true, ByteArray.size, Nat.reduceAdd, Nat.reduceLeDiff, Nat.reduceEqDiff, Nat.reduceMul, Int.reduceToNat, reduceIte, Int.reduceLE, Int.reduceNeg]
    simp [showX, hb]
  · intro hb
    have hb : exprB ⟨k, n, nm, kids⟩ = true := by simpa using hb
    have hs := hs hb
    repeat (first | refine W.seq ?_ | refine W.block ?_ | refine W.skip ?_ | refine W.exit ?_ | refine W.region tab_ok 0 (by decide) (exec_run (by simp only [exa, beq_self_eq_true, ByteArray.size, Nat.reduceAdd, Nat.reduceLeDiff, Nat.reduceEqDiff, Nat.reduceMul, Int.reduceToNat, reduceIte, Int.reduceLE, Int.reduceNeg]; rfl)) ?_)
    refine W.newRowBox true 9 1 20 5 1 (tyb := 47) (cells := [A.nilv (.pointer none), .nil, .c (.int .i64 0)]) rfl rfl rfl ?_
    obtain ⟨M, hM⟩ : ∃ M, M = upd (upd (upd (upd Mem.nil 1 (some (.box 24 [.c (.int .i64 k), .c (.int .i64 n), .c (.str nm), .c (.sl (cExprs kids))]))) 9 (some (.box 47 [.nilv (.pointer none), .nil, .c (.int .i64 0)]))) 20 (some (rowO true 5 1 []))) 9 (some (.box 47 ([A.nilv (.pointer none), .nil, .c (.int .i64 0)].set 1 (.own 20)))) := ⟨_, rfl⟩
    rw [← hM]
    have hp : PgAt M 9 20 false 0 [] := by
      rw [hM]
      refine ⟨rfl, rfl, by decide, fun i o ho hi => ?_⟩
      rw [upd_ne _ _ hi] at ho
      by_cases e1 : i = 20
      · subst e1; rw [upd_same] at ho; cases ho; rfl
      rw [upd_ne _ _ e1, upd_ne _ _ hi] at ho
      by_cases e2 : i = 1
      · subst e2; rw [upd_same] at ho; cases ho; rfl
      · rw [upd_ne _ _ e2] at ho; cases ho
    have hf : ∀ d, M (30 + d) = none := fun d => by
      rw [hM, upd_ne _ _ (by omega), upd_ne _ _ (by omega), upd_ne _ _ (by omega), upd_ne _ _ (by omega)]; rfl
    have hM1 : M 1 = some (.box 24 [.c (.int .i64 k), .c (.int .i64 n), .c (.str nm), .c (.sl (cExprs kids))]) := by rw [hM]; rfl
    clear hM
    have hw := expr_at _ ⟨k, n, nm, kids⟩ (Nat.le_refl _) hb M 9 20 false 0 [] 30 1 hp hf (by simp; omega)
    rw [List.nil_append] at hw
    refine W.regionK tab_ok 0 (by decide) ?_
    refine runk_split 2 (by simp only [exa, beq_self_eq_true, ByteArray.size, Nat.reduceAdd, Nat.reduceLeDiff, Nat.reduceEqDiff, Nat.reduceMul, Int.reduceToNat, reduceIte, Int.reduceLE, Int.reduceNeg, hM1]; rfl) ?_
    refine runk_callE (D := [20]) rfl rfl rfl rfl rfl (fun i hi => by rw [hkeep]; exact id) (by simp) (cvs_cons cv_refl (cvs_cons cv_refl (cvs_cons cv_refl cvs_nil))) hw ?_
    simp only [killL, putS]
    refine runk_exec (by simp only [exa, beq_self_eq_true, ByteArray.size, Nat.reduceAdd, Nat.reduceLeDiff, Nat.reduceEqDiff, Nat.reduceMul, Int.reduceToNat, reduceIte, Int.reduceLE, Int.reduceNeg]; rfl) ?_
    have hd := done_ok (hp.pgM (u' := true) (t' := 0) (bs' := exprX ⟨k, n, nm, kids⟩ 1)) (exprX_ne hb 1) hs
    (repeat (first | refine W.seq ?_ | refine W.block ?_ | refine W.skip ?_))
    refine W.regionK tab_ok 0 (by decide) ?_
    refine runk_split 1 (by simp only [exa, beq_self_eq_true, ByteArray.size, Nat.reduceAdd, Nat.reduceLeDiff, Nat.reduceEqDiff, Nat.reduceMul, Int.reduceToNat, reduceIte, Int.reduceLE, Int.reduceNeg, killS_app, A.kill, Nat.reduceEqDiff, reduceIte]; rfl) ?_
    refine runk_callE (D := []) rfl rfl rfl rfl rfl (fun j hj => by simp at hj) (by simp) (cvs_cons cv_refl cvs_nil) hd ?_
    simp only [killL, putS]
    unfold pgDoneR
    by_cases hl : 8192 < (exprX ⟨k, n, nm, kids⟩ 1).length
    · rw [if_pos hl]
      refine runk_exec (by simp only [exa, beq_self_eq_true, ByteArray.size, Nat.reduceAdd, Nat.reduceLeDiff, Nat.reduceEqDiff, Nat.reduceMul, Int.reduceToNat, reduceIte, Int.reduceLE, Int.reduceNeg]; rfl) ?_
      repeat (first | refine W.seq ?_ | refine W.block ?_ | refine W.skip ?_ | refine W.exit ?_ | refine W.region tab_ok 0 (by decide) (exec_run (by simp only [exa, beq_self_eq_true, ByteArray.size, Nat.reduceAdd, Nat.reduceLeDiff, Nat.reduceEqDiff, Nat.reduceMul, Int.reduceToNat, reduceIte, Int.reduceLE, Int.reduceNeg]; rfl)) ?_)
      refine W.ret ⟨.inr rfl, by rfl, ?_⟩
      simp only [Tryd.f7, resA, resOne, toT, fin, exa, beq_self_eq_true, ByteArray.size, Nat.reduceAdd, Nat.reduceLeDiff, Nat.reduceEqDiff, Nat.reduceMul, Int.reduceToNat, reduceIte, Int.reduceLE, Int.reduceNeg]
      simp [showX, hb, hl]
    · rw [if_neg hl]
      refine runk_exec (by simp only [exa, beq_self_eq_true, ByteArray.size, Nat.reduceAdd, Nat.reduceLeDiff, Nat.reduceEqDiff, Nat.reduceMul, Int.reduceToNat, reduceIte, Int.reduceLE, Int.reduceNeg]; rfl) ?_
      repeat (first | refine W.seq ?_ | refine W.block ?_ | refine W.skip ?_ | refine W.exit ?_ | refine W.region tab_ok 0 (by decide) (exec_run (by simp only [exa, beq_self_eq_true, ByteArray.size, Nat.reduceAdd, Nat.reduceLeDiff, Nat.reduceEqDiff, Nat.reduceMul, Int.reduceToNat, reduceIte, Int.reduceLE, Int.reduceNeg]; rfl)) ?_)
      refine W.ret ⟨.inr rfl, by rfl, ?_⟩
      simp only [Tryd.f7, resA, resOne, toT, fin, exa, beq_self_eq_true, ByteArray.size, Nat.reduceAdd, Nat.reduceLeDiff, Nat.reduceEqDiff, Nat.reduceMul, Int.reduceToNat, reduceIte, Int.reduceLE, Int.reduceNeg]
      simp [showX, hb, hl]
end V
end Go.Proofs.YtbmbmcdaabhgnaaDoor
end
section
set_option linter.unusedVariables false
set_option linter.unusedSimpArgs false
namespace Go.Proofs.YtbmbmcdaabhgnaaDoor
namespace V
open Go.RowKit
abbrev strX (l : List UInt8) : ByteArray := ⟨l.toArray⟩
theorem strX_size (l : List UInt8) : (strX l).size = l.length := by show l.toArray.size = _; simp
theorem strX_of (s : ByteArray) : s = strX s.data.toList := by
  apply ByteArray.ext; simp [strX]
theorem if_le {a n : Nat} {α : Type} {x y : α} (h : a ≤ n) : (if a ≤ n then x else y) = x := if_pos h
theorem dig_len (u : Nat) (hu : u < 18446744073709551616) : (Lib.decDigits u).length ≤ 100 := by
  by_cases h : u < 10
  · rw [Lib.decDigits, dif_pos h]; simp
  · have h1 := Lib.itoa_length_le ((u / 10 : Nat) : Int) (by omega) (by omega)
    rw [Lib.itoa, if_neg (by omega), Int.toNat_natCast] at h1
    rw [Lib.decDigits, dif_neg h, List.length_append]
    simp only [List.length_cons, List.length_nil]
    omega
theorem dig_ok (u : Nat) (hu : u < 18446744073709551616) (m : Mem) : COk Tryd.prog 71 [.c (.int .u64 u)] m (.c (.str (strX (Lib.decDigits u)))) := by
  refine ⟨enters_of Tryd.func71 (by kernel_rfl) rfl, rfl, fun m' _ => ?_⟩
  intro w0 I0 B I w vals hm hv
  match vals, hv with
  | [v], ⟨h1, _⟩ =>
    cases h1
    refine (digits_any u u (Nat.le_refl _) hu w).mono ?_
    rintro e w' ⟨rfl, hb⟩
    have h1 : (Lib.decDigits u).length ≤ 100 := dig_len u hu
    exact ⟨_, I, rfl, hb, fun _ _ k => k, fun _ _ k => .inl k, .str (by rw [strX_size]; exact Nat.le_trans h1 (by decide))⟩
theorem size01_ok (n : Int) (h0 : 0 ≤ n) (h1 : n ≤ 9223372036854775807) (m : Mem) : COk Tryd.prog 72 [.c (.int .i64 n)] m (.c (.int .u64 n)) := by
  have hn : decide (n < 0) = false := by simpa using h0
  have hw : IntKind.u64.wrap n = n := by simp [IntKind.wrap, IntKind.bits, IntKind.signed]; omega
  refine (ok_pure tab_ok Tryd.func72 (by kernel_rfl) rfl rfl (by rfl) (by rfl) (by rfl) (fun R hkeep => ?_) m)
  repeat (first | refine W.seq ?_ | refine W.block ?_ | refine W.skip ?_ | refine W.exit ?_ | refine W.region tab_ok 0 (by decide) (exec_run (by simp only [exa, beq_self_eq_true, ByteArray.size, Nat.reduceAdd, Nat.reduceLeDiff, Nat.reduceEqDiff, Nat.reduceMul, Int.reduceToNat, reduceIte, Int.reduceLE, Int.reduceNeg]; rfl)) ?_)
  refine W.cond rfl (fun h => by rw [hn] at h; cases h) (fun _ => ?_)
  repeat (first | refine W.seq ?_ | refine W.block ?_ | refine W.skip ?_ | refine W.exit ?_ | refine W.region tab_ok 0 (by decide) (exec_run (by simp only [exa, beq_self_eq_true, ByteArray.size, Nat.reduceAdd, Nat.reduceLeDiff, Nat.reduceEqDiff, Nat.reduceMul, Int.reduceToNat, reduceIte, Int.reduceLE, Int.reduceNeg, hw]; rfl)) ?_)
  refine W.ret ⟨.inr rfl, by rfl, ?_⟩
  simp only [Tryd.f72, resA, resOne, toT, fin, exa, beq_self_eq_true, ByteArray.size, Nat.reduceAdd, Nat.reduceLeDiff, Nat.reduceEqDiff, Nat.reduceMul, Int.reduceToNat, reduceIte, Int.reduceLE, Int.reduceNeg]
theorem num01_ok (n : Int) (h0 : 0 ≤ n) (h1 : n ≤ 9223372036854775807) (m : Mem) : COk Tryd.prog 45 [.c (.int .i64 n)] m (.c (.str (strX (Lib.itoa n)))) := by
  have hn : decide (n < 0) = false := by simpa using h0
  obtain ⟨u, hu⟩ := Int.eq_ofNat_of_zero_le h0
  have hi : Lib.itoa n = Lib.decDigits u := by rw [Lib.itoa, if_neg (by omega), hu, Int.toNat_natCast]
  rw [hi]
  have hd := dig_ok u (by omega)
  rw [← hu] at hd
  have hz := size01_ok n h0 h1
  refine (ok_pure tab_ok Tryd.func45 (by kernel_rfl) rfl rfl (by rfl) (by rfl) (by rfl) (fun R hkeep => ?_) m)
  repeat (first | refine W.seq ?_ | refine W.block ?_ | refine W.skip ?_ | refine W.exit ?_ | refine W.region tab_ok 0 (by decide) (exec_run (by simp only [exa, beq_self_eq_true, ByteArray.size, Nat.reduceAdd, Nat.reduceLeDiff, Nat.reduceEqDiff, Nat.reduceMul, Int.reduceToNat, reduceIte, Int.reduceLE, Int.reduceNeg]; rfl)) ?_)
  refine W.cond rfl (fun h => by rw [hn] at h; cases h) (fun _ => ?_)
  (repeat (first | refine W.seq ?_ | refine W.block ?_ | refine W.skip ?_))
  refine W.regionK tab_ok 0 (by decide) ?_
  refine runk_split 1 (by simp only [exa, beq_self_eq_true, ByteArray.size, Nat.reduceAdd, Nat.reduceLeDiff, Nat.reduceEqDiff, Nat.reduceMul, Int.reduceToNat, reduceIte, Int.reduceLE, Int.reduceNeg]; rfl) ?_
  refine runk_call rfl rfl rfl rfl rfl (by simp) (cvs_cons cv_refl cvs_nil) (hz _) ?_
  refine runk_split 0 (by simp only [exa, beq_self_eq_true, ByteArray.size, Nat.reduceAdd, Nat.reduceLeDiff, Nat.reduceEqDiff, Nat.reduceMul, Int.reduceToNat, reduceIte, Int.reduceLE, Int.reduceNeg]; rfl) ?_
  refine runk_call rfl rfl rfl rfl rfl (by simp) (cvs_cons cv_refl cvs_nil) (hd _) ?_
  refine runk_exec (by simp only [exa, beq_self_eq_true, ByteArray.size, Nat.reduceAdd, Nat.reduceLeDiff, Nat.reduceEqDiff, Nat.reduceMul, Int.reduceToNat, reduceIte, Int.reduceLE, Int.reduceNeg]; rfl) ?_
  refine W.ret ⟨.inr rfl, by rfl, ?_⟩
  simp only [Tryd.f45, resA, resOne, toT, fin, exa, beq_self_eq_true, ByteArray.size, Nat.reduceAdd, Nat.reduceLeDiff, Nat.reduceEqDiff, Nat.reduceMul, Int.reduceToNat, reduceIte, Int.reduceLE, Int.reduceNeg]
set_option maxHeartbeats 8000000 in
theorem level_ok (k : Int) (hk : 1 ≤ k ∧ k ≤ 18) (m : Mem) : COk Tryd.prog 73 [.c (.int .i64 k)] m (.c (.int .i64 (levX k))) := by
  obtain ⟨L, hL⟩ : ∃ L, levX k = L := ⟨_, rfl⟩
  rw [hL]
  have hcase : k = 1 ∨ k = 2 ∨ k = 3 ∨ k = 4 ∨ k = 5 ∨ k = 6 ∨ k = 7 ∨ k = 8 ∨ k = 9 ∨ k = 10 ∨ k = 11 ∨ k = 12 ∨ k = 13 ∨ k = 14 ∨ k = 15 ∨ k = 16 ∨ k = 17 ∨ k = 18 := by omega
  rcases hcase with rfl | rfl | rfl | rfl | rfl | rfl | rfl | rfl | rfl | rfl | rfl | rfl | rfl | rfl | rfl | rfl | rfl | rfl
  all_goals
    refine (ok_pure tab_ok Tryd.func73 (by kernel_rfl) rfl rfl (by rfl) (by rfl) (by rfl) (fun R hkeep => ?_) m)
    repeat (first | refine W.seq ?_ | refine W.block ?_ | refine W.skip ?_ | refine W.exit ?_ | refine W.region tab_ok 0 (by decide) (exec_run (by simp only [exa, beq_self_eq_true, ByteArray.size, Nat.reduceAdd, Nat.reduceLeDiff, Nat.reduceEqDiff, Nat.reduceMul, Int.reduceToNat, reduceIte, Int.reduceLE, Int.reduceNeg]; rfl)) ?_ | refine W.cond rfl (fun _ => ?_) (fun h => absurd h (by decide)) | refine W.cond rfl (fun h => absurd h (by decide)) (fun _ => ?_))
    refine W.ret ⟨.inr rfl, by rfl, ?_⟩
    simp only [Tryd.f73, resA, resOne, toT, fin, exa, beq_self_eq_true, ByteArray.size, Nat.reduceAdd, Nat.reduceLeDiff, Nat.reduceEqDiff, Nat.reduceMul, Int.reduceToNat, reduceIte, Int.reduceLE, Int.reduceNeg]
    rw [← hL]
    rfl
def signX (k : Int) : List UInt8 := if k = 17 then [60] else if k = 18 then [61, 61] else if k = 13 then [43] else if k = 14 then [45] else if k = 15 then [42] else [47]
set_option maxHeartbeats 8000000 in
theorem sign_ok (k : Int) (hk : 13 ≤ k ∧ k ≤ 18) (m : Mem) : COk Tryd.prog 47 [.c (.int .i64 k)] m (.c (.str (strX (signX k)))) := by
  obtain ⟨L, hL⟩ : ∃ L, signX k = L := ⟨_, rfl⟩
  rw [hL]
  have hcase : k = 13 ∨ k = 14 ∨ k = 15 ∨ k = 16 ∨ k = 17 ∨ k = 18 := by omega
  rcases hcase with rfl | rfl | rfl | rfl | rfl | rfl
  all_goals
    refine (ok_pure tab_ok Tryd.func47 (by kernel_rfl) rfl rfl (by rfl) (by rfl) (by rfl) (fun R hkeep => ?_) m)
    repeat (first | refine W.seq ?_ | refine W.block ?_ | refine W.skip ?_ | refine W.exit ?_ | refine W.region tab_ok 0 (by decide) (exec_run (by simp only [exa, beq_self_eq_true, ByteArray.size, Nat.reduceAdd, Nat.reduceLeDiff, Nat.reduceEqDiff, Nat.reduceMul, Int.reduceToNat, reduceIte, Int.reduceLE, Int.reduceNeg]; rfl)) ?_ | refine W.cond rfl (fun _ => ?_) (fun h => absurd h (by decide)) | refine W.cond rfl (fun h => absurd h (by decide)) (fun _ => ?_))
    refine W.ret ⟨.inr rfl, by rfl, ?_⟩
    simp only [Tryd.f47, resA, resOne, toT, fin, exa, beq_self_eq_true, ByteArray.size, Nat.reduceAdd, Nat.reduceLeDiff, Nat.reduceEqDiff, Nat.reduceMul, Int.reduceToNat, reduceIte, Int.reduceLE, Int.reduceNeg]
    rw [← hL]
    rfl
theorem at_ok {x : Expr} (hx : exprB x = true) (hc : cntE x ≤ 1048576) (ht : ∀ m, COk Tryd.prog 19 [.agg (cExpr x)] m (.c (.str (strX (textX x))))) (want : Int) (m : Mem) : COk Tryd.prog 46 [.agg (cExpr x), .c (.int .i64 want)] m (.c (.str (strX (exprX x want)))) := by
  have hl := textX_len x hx
  have hk : 1 ≤ x.kind ∧ x.kind ≤ 18 := by
    rw [exprB_eq] at hx
    obtain ⟨htop, -⟩ := Bool.and_eq_true_iff.1 hx
    rw [exprTop_eq] at htop
    simp only [Bool.and_eq_true, decide_eq_true_eq] at htop
    obtain ⟨⟨⟨⟨⟨hkk, -⟩, -⟩, -⟩, -⟩, -⟩ := htop
    by_cases hk : 1 ≤ x.kind ∧ x.kind ≤ 18
    · exact hk
    · unfold shapeOf at hkk; rw [if_neg hk] at hkk; cases hkk
  have hv := level_ok x.kind hk
  have hX : exprX x want = if levX x.kind < want then 40 :: (textX x ++ [41]) else textX x := rfl
  rw [hX]
  obtain ⟨T, hT⟩ : ∃ T, textX x = T := ⟨_, rfl⟩
  obtain ⟨L, hL⟩ : ∃ L, levX x.kind = L := ⟨_, rfl⟩
  rw [hT] at ht hl ⊢
  rw [hL] at hv ⊢
  have hs : T.length ≤ 100000000 := by omega
  obtain ⟨k, n, nm, kids⟩ := x
  simp only [cExpr] at ht ⊢
  refine (ok_pure tab_ok Tryd.func46 (by kernel_rfl) rfl rfl (by rfl) (by rfl) (by rfl) (fun R hkeep => ?_) m)
  repeat (first | refine W.seq ?_ | refine W.block ?_ | refine W.skip ?_ | refine W.exit ?_ | refine W.region tab_ok 0 (by decide) (exec_run (by simp only [exa, beq_self_eq_true, ByteArray.size, Nat.reduceAdd, Nat.reduceLeDiff, Nat.reduceEqDiff, Nat.reduceMul, Int.reduceToNat, reduceIte, Int.reduceLE, Int.reduceNeg]; rfl)) ?_)
  (repeat (first | refine W.seq ?_ | refine W.block ?_ | refine W.skip ?_))
  refine W.regionK tab_ok 0 (by decide) ?_
  refine runk_split 1 (by simp only [exa, beq_self_eq_true, ByteArray.size, Nat.reduceAdd, Nat.reduceLeDiff, Nat.reduceEqDiff, Nat.reduceMul, Int.reduceToNat, reduceIte, Int.reduceLE, Int.reduceNeg]; rfl) ?_
  refine runk_call rfl rfl rfl rfl rfl (by simp) (cvs_cons cv_refl cvs_nil) (ht _) ?_
  refine runk_exec (by simp only [exa, beq_self_eq_true, ByteArray.size, Nat.reduceAdd, Nat.reduceLeDiff, Nat.reduceEqDiff, Nat.reduceMul, Int.reduceToNat, reduceIte, Int.reduceLE, Int.reduceNeg]; rfl) ?_
  (repeat (first | refine W.seq ?_ | refine W.block ?_ | refine W.skip ?_))
  refine W.regionK tab_ok 0 (by decide) ?_
  refine runk_split 2 (by simp only [exa, beq_self_eq_true, ByteArray.size, Nat.reduceAdd, Nat.reduceLeDiff, Nat.reduceEqDiff, Nat.reduceMul, Int.reduceToNat, reduceIte, Int.reduceLE, Int.reduceNeg]; rfl) ?_
  refine runk_call rfl rfl rfl rfl rfl (by simp) (cvs_cons cv_refl cvs_nil) (hv _) ?_
  refine runk_exec (by simp only [exa, beq_self_eq_true, ByteArray.size, Nat.reduceAdd, Nat.reduceLeDiff, Nat.reduceEqDiff, Nat.reduceMul, Int.reduceToNat, reduceIte, Int.reduceLE, Int.reduceNeg]; rfl) ?_
  (repeat (first | refine W.seq ?_ | refine W.block ?_ | refine W.skip ?_))
  refine W.cond rfl ?_ ?_
  · intro hlt
    have hlt : L < want := by simpa using hlt
    rw [if_pos hlt]
    (repeat (first | refine W.seq ?_ | refine W.block ?_ | refine W.skip ?_))
    refine W.regionK tab_ok 0 (by decide) ?_
    refine runk_exec (by simp (disch := omega) only [exa, beq_self_eq_true, ByteArray.size, Nat.reduceAdd, Nat.reduceLeDiff, Nat.reduceEqDiff, Nat.reduceMul, Int.reduceToNat, reduceIte, Int.reduceLE, Int.reduceNeg, app_bytes, if_le, List.length_append, List.length_cons, List.length_nil]; rfl) ?_
    refine W.ret ⟨.inr rfl, by rfl, ?_⟩
    simp only [Tryd.f46, resA, resOne, toT, fin, exa, beq_self_eq_true, ByteArray.size, Nat.reduceAdd, Nat.reduceLeDiff, Nat.reduceEqDiff, Nat.reduceMul, Int.reduceToNat, reduceIte, Int.reduceLE, Int.reduceNeg]
  · intro hlt
    have hlt : ¬ L < want := by simpa using hlt
    rw [if_neg hlt]
    repeat (first | refine W.seq ?_ | refine W.block ?_ | refine W.skip ?_ | refine W.exit ?_ | refine W.region tab_ok 0 (by decide) (exec_run (by simp only [exa, beq_self_eq_true, ByteArray.size, Nat.reduceAdd, Nat.reduceLeDiff, Nat.reduceEqDiff, Nat.reduceMul, Int.reduceToNat, reduceIte, Int.reduceLE, Int.reduceNeg]; rfl)) ?_)
    refine W.ret ⟨.inr rfl, by rfl, ?_⟩
    simp only [Tryd.f46, resA, resOne, toT, fin, exa, beq_self_eq_true, ByteArray.size, Nat.reduceAdd, Nat.reduceLeDiff, Nat.reduceEqDiff, Nat.reduceMul, Int.reduceToNat, reduceIte, Int.reduceLE, Int.reduceNeg]
end V
end Go.Proofs.YtbmbmcdaabhgnaaDoor
end
