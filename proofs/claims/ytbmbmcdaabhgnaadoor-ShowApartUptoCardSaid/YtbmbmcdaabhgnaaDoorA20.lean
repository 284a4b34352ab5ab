/- Joined by my own program, in build order: Bulk, Bulk6, Bx, Top, Cd3, By, Vk, Sh, Rt, Rtx, Sm, Ps, Bd, Frz, Veff, Be, Bw, Pd, Ly, Li, Vs, Vtree, Vpor, Vpan, Dt, Nxj. -/
import Derived.Test.YtbmbmcdaabhgnaaDoorRows
import Derived.Test.YtbmbmcdaabhgnaaDoorA2
import Derived.Test.YtbmbmcdaabhgnaaDoorA19
import Derived.Test.YtbmbmcdaabhgnaaDoorA11
import Derived.ProofKit
import Derived.OpenShut
import Derived.HandedShaped
import Derived.Deep.DeepHandedRow
import Derived.LaidLaws
import Derived.Lib.LaidTab
import Derived.Test.YtbmbmcdaabhgnaaDoorA15
import Derived.Test.YtbmbmcdaabhgnaaDoorA9
import Derived.Test.YtbmbmcdaabhgnaaDoorA10
import Derived.Test.YtbmbmcdaabhgnaaDoorT4
import Derived.Lib.ItoaLen
import Derived.Lib.AppendIntMem
import Derived.Test.YtbmbmcdaabhgnaaDoorA16
import Derived.Lib.AppendStr
import Derived.Test.YtbmbmcdaabhgnaaDoorChecked
import Derived.Lib.Builder
import Derived.Lib.UnsafeStr
import Derived.WalkKit
import Derived.Laws.Externs
import Derived.Tactics
import Derived.Tactics2
import Derived.Defers
import Derived.Test.YtbmbmcdaabhgnaaDoorT17
import Derived.Sort.LoopGhostIn
set_option linter.unusedVariables false
set_option linter.unusedSimpArgs false
section
set_option linter.unusedVariables false
set_option linter.unusedSimpArgs false
namespace Go.Proofs.YtbmbmcdaabhgnaaDoor
namespace V
open Go.RowKit
section
variable {H : Type} {enc : TypeId × Value → H} {w : World} {held : Bool}
theorem bulk_one (d : DataW H) : 1 ≤ Rows.uptoBulk d := by
  cases d with
  | lit l => cases l <;> simp [Rows.uptoBulk]
  | _ => simp [Rows.uptoBulk]
theorem bulk_mem {d : DataW H} {l : List (DataW H)} (h : d ∈ l) : Rows.uptoBulk d ≤ Rows.uptoBulkAll l := by
  induction l with
  | nil => cases h
  | cons x r ih =>
    simp only [Rows.uptoBulkAll]
    rcases List.mem_cons.1 h with rfl | e
    · omega
    · have := ih e; omega
theorem cells_same {b off : Nat} {cs cs' : List Value} (h : cellsAt w b off cs) (k : ∀ i, i < cs'.length → w.cell? ⟨b, off + i, none⟩ = cs'[i]?) (hl : cs.length = cs'.length) : cs = cs' := by
  refine List.ext_getElem? fun i => ?_
  by_cases hi : i < cs.length
  · have h1 := cellsAt_get h i _ (List.getElem?_eq_getElem hi)
    have h2 := k i (by omega)
    rw [List.getElem?_eq_getElem hi, ← h2, ← h1]
  · rw [List.getElem?_eq_none (by omega), List.getElem?_eq_none (by omega)]
theorem struct_bulk {P : Go.Program} {t : TypeId} {fl : List (TypeId × Nat)} {fuel : Nat} {cs : List Value} {x : DataW H × List MemPlace}
    (hf : (P.underlying t).map (fun d => match d with | .struct fs => fs.toList.map (fun f => (f.type, f.offset)) | _ => []) = some fl) (hne : fl ≠ [])
    (h : DataW.trod enc P w 0 (fun _ => true) held fuel t cs = some x) : ∀ k ∈ fl, ∃ n y, DataW.trod enc P w 0 (fun _ => true) held n k.1 ((cs.drop k.2).take (P.cellsOf k.1)) = some y ∧ Rows.uptoBulk y.1 ≤ Rows.uptoBulk x.1 := by
  cases hu : P.underlying t with
  | none => rw [hu] at hf; simp at hf
  | some d =>
    rw [hu] at hf
    simp only [Option.map_some, Option.some.injEq] at hf
    cases d with
    | struct fs =>
      simp only at hf
      obtain ⟨xs, n, hfu, hxe, hl, hlen, hall⟩ := DataW.trod_struct hu h
      intro k hk
      rw [← hf] at hk
      obtain ⟨f, hfm, rfl⟩ := List.mem_map.1 hk
      obtain ⟨i, hi⟩ := List.mem_iff_getElem?.1 hfm
      have hi' : fs[i]? = some f := by rw [← Array.getElem?_toList]; exact hi
      have := hall i f hi'
      have hlt : i < xs.length := by
        rw [hlen]
        exact (Array.getElem?_eq_some_iff.1 hi').1
      refine ⟨n, xs[i], by simpa [List.getElem?_eq_getElem hlt] using this, ?_⟩
      have h1 : xs[i].1 ∈ xs.map (·.1) := List.mem_map_of_mem (List.getElem_mem hlt)
      have h2 := bulk_mem h1
      subst hxe
      simp only [Rows.uptoBulk]
      omega
    | _ => simp only at hf; exact absurd hf.symm hne
end
end V
end Go.Proofs.YtbmbmcdaabhgnaaDoor
end
section
set_option linter.unusedVariables false
set_option linter.unusedSimpArgs false
namespace Go.Proofs.YtbmbmcdaabhgnaaDoor
namespace V
open Go.RowKit
section
variable {H : Type} {enc : TypeId × Value → H} {w : World} {held : Bool}
theorem sum_le {α β : Type} (f : α → Nat) (g : β → Nat) : ∀ (l : List α) (e : List β), l.length ≤ e.length → (∀ (i : Nat) x y, l[i]? = some x → e[i]? = some y → f x ≤ g y) → (l.map f).sum ≤ (e.map g).sum
  | [], _, _, _ => by simp
  | x :: l, [], h, _ => by simp at h
  | x :: l, y :: e, h, hp => by
    have h1 := hp 0 x y rfl rfl
    have h2 := sum_le f g l e (by simpa using h) (fun i a b ha hb => hp (i + 1) a b (by simpa using ha) (by simpa using hb))
    simp only [List.map_cons, List.sum_cons]
    omega
theorem bulk_sum : ∀ l : List (DataW H), Rows.uptoBulkAll l = (l.map Rows.uptoBulk).sum
  | [] => by simp [Rows.uptoBulkAll]
  | x :: l => by simp [Rows.uptoBulkAll, bulk_sum l]
theorem slice_sum {α : Type} {P : Go.Program} {t e : TypeId} {sz fuel : Nat} {v : Value} {x : DataW H × List MemPlace} {R : List Value → α → Prop} {J : Nat → Prop} {l : List α} (cnt : α → Nat) (ht : P.underlying t = some (.slice e)) (hsz : P.cellsOf e = sz) (hpos : 0 < sz)
    (hlen : ∀ cs y, R cs y → cs.length = sz) (h : DataW.trod enc P w 0 (fun _ => true) held fuel t [v] = some x) (hR : RSl sz R w J v l) (hc : ∀ y ∈ l, ∀ n cs z, R cs y → DataW.trod enc P w 0 (fun _ => true) held n e cs = some z → cnt y ≤ Rows.uptoBulk z.1) :
    (l.map cnt).sum + 1 ≤ Rows.uptoBulk x.1 := by
  obtain ⟨a, n, cap, rfl, hn, -, -, hel⟩ := hR
  rcases DataW.trod_slice ht h with ⟨e1, rfl⟩ | ⟨a', len, cap', elems, rest, m, -, e1, hxe, -, -, -, hlen', hall, -, -⟩
  · simp only [List.cons.injEq, Value.slice.injEq, and_true] at e1
    obtain ⟨-, rfl, -⟩ := e1
    obtain rfl : l = [] := List.length_eq_zero_iff.1 hn
    have := bulk_one (H := H) DataW.nil
    simpa using this
  · simp only [List.cons.injEq, Value.slice.injEq, and_true] at e1
    obtain ⟨rfl, rfl, rfl⟩ := e1
    subst hxe
    have hb : Rows.uptoBulkAll (elems.map (·.1)) + 1 ≤ Rows.uptoBulk (DataW.slice (elems.map (·.1)) (rest.map (·.1))) := by simp only [Rows.uptoBulk]; omega
    refine Nat.le_trans (Nat.succ_le_succ ?_) hb
    rw [bulk_sum, List.map_map]
    refine sum_le cnt _ l elems (by omega) fun i y z hi hz => ?_
    have hil := (List.getElem?_eq_some_iff.1 hi).1
    obtain ⟨b, off, cs, ea, -, hcc, hr⟩ := hel i y hi
    cases ea
    have h1 := hall i (by omega)
    rw [hsz, hz] at h1
    cases hcell : w.cells? 0 ((⟨b, off, none⟩ : Addr).add (i * sz)) sz with
    | none => rw [hcell] at h1; simp at h1
    | some cs' =>
      rw [hcell] at h1
      have h1' : DataW.trod enc P w 0 (fun _ => true) held m e cs' = some z := by simpa using h1
      obtain ⟨_, hlen2, hcs⟩ := World.cells?_some hcell
      have : cs = cs' := cells_same hcc (fun j hj => by
        have := hcs j (by omega)
        rw [← this]
        congr 1
        have h3 : ∀ (o k : Nat), (⟨b, o, none⟩ : Addr).add k = ⟨b, o + k, none⟩ := fun o k => by
          unfold Addr.add
          by_cases hk : k = 0
          · subst hk; rfl
          · simp [hk]
        rw [h3, h3]) (by rw [hlen _ _ hr, hlen2])
      subst this
      exact hc y (List.mem_of_getElem? hi) m cs z hr h1'
end
end V
end Go.Proofs.YtbmbmcdaabhgnaaDoor
end
section
set_option linter.unusedVariables false
set_option linter.unusedSimpArgs false
namespace Go.Proofs.YtbmbmcdaabhgnaaDoor
namespace V
open Go.RowKit
section
variable {H : Type} {enc : TypeId × Value → H} {w : World} {held : Bool}
theorem cntEs_sum : ∀ l : List Expr, cntEs l = (l.map cntE).sum
  | [] => by simp [cntEs]
  | x :: l => by simp only [cntEs, List.map_cons, List.sum_cons, cntEs_sum l]
theorem expr_cnt : ∀ (d n : Nat) (cs : List Value) (x : Expr) (z : DataW H × List MemPlace), RExpr d w (· < w.heap.size) cs x → DataW.trod enc Tryd.prog w 0 (fun _ => true) held n 24 cs = some z → cntE x ≤ Rows.uptoBulk z.1
  | 0, _, _, _, _, h, _ => h.elim
  | d + 1, n, cs, ⟨k, nn, nm, kids⟩, z, ⟨kv, e1, _, _, _, h5⟩, h => by
    subst e1
    obtain ⟨n3, y3, k3, b3⟩ := struct_bulk fieldsExpr (by simp) h (22, 3) (by simp)
    rw [cellsOf_one _ c_exprs _ _ _ rfl] at k3
    have c5 : (kids.map cntE).sum + 1 ≤ Rows.uptoBulk y3.1 := slice_sum cntE Tryd.underlying22 c_expr (by decide) (fun cs y hy => by cases d with | zero => exact hy.elim | succ d => obtain ⟨_, rfl, -⟩ := hy; rfl) k3 h5 (fun y _ n cs z hr ht => expr_cnt d n cs y z hr ht)
    simp only [cntE, cntEs_sum]
    omega
end
end V
end Go.Proofs.YtbmbmcdaabhgnaaDoor
end
section
set_option linter.unusedSimpArgs false
namespace Go.Proofs.YtbmbmcdaabhgnaaDoor
open Go.ChangeShapes Go.WideShapes Go.ChangeAt Go.RowKit
open Go.ChangeMaps (open_string shut_string)
set_option linter.unusedVariables false
theorem own : ownKnob Tryd.prog.godebug = none := by kernel_rfl
theorem laidOut : laidOutB Tryd.prog = true := by kernel_rfl
namespace V
theorem cok_top {f : FuncId} {args : List A} {r : A} {W : World} {vals : List Value} (h : COk Tryd.prog f args Mem.nil r) (hg : GlobOk W) (hv : ∀ B, RVl B W (fun b _ => b < W.heap.size) args vals) :
    Calls Tryd.prog f vals.toArray W fun e w' => ∃ v, e = .returned v ∧ Below W.heap.size W w' ∧ ∃ B I', RV B w' I' r v := by
  obtain ⟨-, -, h⟩ := h
  have hm : MR W (fun b _ => b < W.heap.size) (fun _ => undef) (fun b _ => b < W.heap.size) Mem.nil W :=
    ⟨Below.refl _ _, hg, fun _ _ h => h, fun _ _ h => .inl h, fun _ _ h => h, (fun _ _ h => by simp [Mem.nil] at h), (fun _ _ h => by simp [Mem.nil] at h), (fun _ _ _ _ h => by simp [Mem.nil] at h), (fun _ _ h => by simp [Mem.nil] at h)⟩
  refine (h Mem.nil (fun _ _ => rfl) W _ _ _ W vals hm (hv _)).mono ?_
  rintro e w' ⟨v, I', rfl, hb, -, -, hr⟩
  exact ⟨v, rfl, hb, _, _, hr⟩
theorem cok_true {f : FuncId} {args : List A} {W : World} {vals : List Value} (h : COk Tryd.prog f args Mem.nil (.c (.bool true))) (hg : GlobOk W) (hv : ∀ B, RVl B W (fun b _ => b < W.heap.size) args vals) :
    Calls Tryd.prog f vals.toArray W fun e w' => e = .returned (.bool true) ∧ Below W.heap.size W w' := by
  refine (cok_top h hg hv).mono ?_
  rintro e w' ⟨v, rfl, hb, B, I', hr⟩
  have hr : RC w' I' v (.bool true) := hr
  cases hr
  exact ⟨rfl, hb⟩
theorem rv_prog {B : Nat → Value} {W : World} {d : Nat} {v : Value} {p : Program} (h : RProgram d W (· < W.heap.size) v p) : RV B W (fun b _ => b < W.heap.size) (.agg (cProg p)) v :=
  prog_rcs (fun _ _ h => h) h
end V
end Go.Proofs.YtbmbmcdaabhgnaaDoor
end
section
set_option linter.unusedVariables false
set_option linter.unusedSimpArgs false
namespace Go.Proofs.YtbmbmcdaabhgnaaDoor
open Go.ChangeShapes Go.WideShapes Go.ChangeAt Go.RowKit
open V
theorem tabIs_of_vars {P : Go.Program} {W : World} {name : String} {k : IntKind} {zs : List Int} {g : Nat} {t e : TypeId} {n : Nat}
    (hg : P.globalNamed name = some g) (hty : (P.globals[g]?).map (·.type) = some t) (ht : P.underlying t = some (.array n e)) (he : P.underlying e = some (.int k)) (hce : P.cellsOf e = 1) (hct : P.cellsOf t = n) {rest : List (String × DataW Unit)} {ps : List MemPlace}
    (h : DataW.LaidVars P W ((name, Lib.tabData k zs) :: rest) ps) : Lib.TabIs P W name k zs := by
  obtain ⟨g', t', cs, fuel, p, q, hg', ht', hvar, hd, _, _⟩ := h
  obtain rfl := Option.some.inj (hg.symm.trans hg')
  obtain rfl := Option.some.inj (hty.symm.trans ht')
  unfold Lib.TabIs
  rw [hvar, ← Lib.cells_of_tab ht he hce hct hd]
theorem gTens : Tryd.prog.globalNamed "internal/strconv.uint64pow10" = some 1 := by kernel_rfl
theorem tens_of {W : World} (h : laidMetH Tryd.prog Rows.showExprsUptoRow.laid W) : Lib.TabIs Tryd.prog W "internal/strconv.uint64pow10" .u64 Lib.pow10Tab := by
  obtain ⟨ps, ⟨_, _, _, _, _, q1, _, _, _, _, ⟨_, _, _, _, _, q2, _, _, _, _, h3, _⟩, _⟩, _⟩ := h
  exact tabIs_of_vars (zs := Lib.pow10Tab) gTens (by kernel_rfl) Tryd.underlying129 Tryd.underlying104 (by kernel_rfl) (by kernel_rfl) h3
def laidVals : DataW Unit → Array Value
  | .agg l => (l.map fun | .lit (.int k z) => Value.int k z | _ => undef).toArray
  | _ => #[]
def setTab (h : Array Obj) (g : Nat) (d : DataW Unit) : Array Obj := h.modify g fun
  | .cells _ t frozen => .cells (laidVals d) t frozen
  | o => o
noncomputable def laidWorld (os : Os) : World :=
  { World.holding Tryd.prog os ⟨#[], #[], []⟩ with heap := setTab (setTab (setTab (World.holding Tryd.prog os ⟨#[], #[], []⟩).heap 2 Rows.laid_math_bits_deBruijn32tab) 3 Rows.laid_math_bits_deBruijn64tab) 1 Rows.laid_internal_strconv_uint64pow10 }
section
variable {H : Type} {enc : TypeId × Value → H} {w : World} {held : Bool}
end
end Go.Proofs.YtbmbmcdaabhgnaaDoor
end
section
set_option linter.unusedVariables false
set_option linter.unusedSimpArgs false
namespace Go.Proofs.YtbmbmcdaabhgnaaDoor
namespace V
open Go.RowKit
section
variable {H : Type} {enc : TypeId × Value → H} {w : World} {held : Bool}
theorem dat_one {l : List (DataW H)} {b : Nat} {y : DataW H} (h : l[b]? = some y) : Rows.uptoBulk y ≤ Rows.uptoBulkAll l := bulk_mem (List.mem_of_getElem? h)
theorem dat_two : ∀ {l : List (DataW H)} {a b : Nat} {x y : DataW H}, a < b → l[a]? = some x → l[b]? = some y → Rows.uptoBulk x + Rows.uptoBulk y ≤ Rows.uptoBulkAll l
  | [], a, b, x, y, _, ha, _ => by simp at ha
  | z :: l, 0, b + 1, x, y, _, ha, hb => by
    cases ha
    have := dat_one (l := l) (b := b) (y := y) (by simpa using hb)
    simp only [Rows.uptoBulkAll]
    omega
  | z :: l, a + 1, b + 1, x, y, h, ha, hb => by
    have := dat_two (l := l) (a := a) (b := b) (x := x) (y := y) (by omega) (by simpa using ha) (by simpa using hb)
    simp only [Rows.uptoBulkAll]
    omega
theorem dat_three : ∀ {l : List (DataW H)} {a b c : Nat} {x y z : DataW H}, a < b → b < c → l[a]? = some x → l[b]? = some y → l[c]? = some z → Rows.uptoBulk x + Rows.uptoBulk y + Rows.uptoBulk z ≤ Rows.uptoBulkAll l
  | [], a, b, c, x, y, z, _, _, ha, _, _ => by simp at ha
  | u :: l, 0, b + 1, c + 1, x, y, z, _, h, ha, hb, hc => by
    cases ha
    have := dat_two (l := l) (a := b) (b := c) (x := y) (y := z) (by omega) (by simpa using hb) (by simpa using hc)
    simp only [Rows.uptoBulkAll]
    omega
  | u :: l, a + 1, b + 1, c + 1, x, y, z, h1, h2, ha, hb, hc => by
    have := dat_three (l := l) (a := a) (b := b) (c := c) (x := x) (y := y) (z := z) (by omega) (by omega) (by simpa using ha) (by simpa using hb) (by simpa using hc)
    simp only [Rows.uptoBulkAll]
    omega
theorem struct_all {P : Go.Program} {t : TypeId} {fl : List (TypeId × Nat)} {fuel : Nat} {cs : List Value} {x : DataW H × List MemPlace} (hne : fl ≠ [])
    (hf : (P.underlying t).map (fun d => match d with | .struct fs => fs.toList.map (fun f => (f.type, f.offset)) | _ => []) = some fl)
    (h : DataW.trod enc P w 0 (fun _ => true) held fuel t cs = some x) : ∃ n l, Rows.uptoBulkAll l + 1 ≤ Rows.uptoBulk x.1 ∧ ∀ (i : Nat) k, fl[i]? = some k → ∃ y, l[i]? = some y.1 ∧ DataW.trod enc P w 0 (fun _ => true) held n k.1 ((cs.drop k.2).take (P.cellsOf k.1)) = some y := by
  cases hu : P.underlying t with
  | none => rw [hu] at hf; simp at hf
  | some d =>
    rw [hu] at hf
    simp only [Option.map_some, Option.some.injEq] at hf
    cases d with
    | struct fs =>
      simp only at hf
      obtain ⟨xs, n, hfu, hxe, hl, hlen, hall⟩ := DataW.trod_struct hu h
      refine ⟨n, xs.map (·.1), by subst hxe; simp only [Rows.uptoBulk]; omega, fun i k hk => ?_⟩
      rw [← hf, List.getElem?_map] at hk
      cases hfi : fs.toList[i]? with
      | none => rw [hfi] at hk; cases hk
      | some f =>
        rw [hfi] at hk
        cases hk
        have hi' : fs[i]? = some f := by rw [← Array.getElem?_toList]; exact hfi
        have := hall i f hi'
        have hlt : i < xs.length := by rw [hlen]; exact (Array.getElem?_eq_some_iff.1 hi').1
        exact ⟨xs[i], by rw [List.getElem?_map, List.getElem?_eq_getElem hlt]; rfl, by simpa [List.getElem?_eq_getElem hlt] using this⟩
    | _ => simp only at hf; exact absurd hf.symm hne
theorem cntSs_sumX : ∀ l : List Stmt, cntSs l = (l.map cntS).sum
  | [] => by simp [cntSs]
  | x :: l => by simp only [cntSs, List.map_cons, List.sum_cons, cntSs_sumX l]
theorem exprs_cntX {d n : Nat} {v : Value} {l : List Expr} {z : DataW H × List MemPlace} (h : RSl 4 (RExpr d w (· < w.heap.size)) w (· < w.heap.size) v l) (k : DataW.trod enc Tryd.prog w 0 (fun _ => true) held n 22 [v] = some z) : cntEs l + 1 ≤ Rows.uptoBulk z.1 := by
  have := slice_sum cntE Tryd.underlying22 c_expr (by decide) (fun cs y hy => by cases d with | zero => exact hy.elim | succ d => obtain ⟨_, rfl, -⟩ := hy; rfl) k h (fun y _ n cs z hr ht => expr_cnt d n cs y z hr ht)
  rwa [← cntEs_sum] at this
theorem stmt_cntX : ∀ (d n : Nat) (cs : List Value) (x : Stmt) (z : DataW H × List MemPlace), RStmt d w (· < w.heap.size) cs x → DataW.trod enc Tryd.prog w 0 (fun _ => true) held n 39 cs = some z → cntS x ≤ Rows.uptoBulk z.1
  | 0, _, _, _, _, h, _ => h.elim
  | d + 1, n, cs, ⟨k, nn, ty, nm, es, th, el⟩, z, ⟨ev, tv, fv, e1, _, _, _, _, h6, h7, h8⟩, h => by
    subst e1
    have hlen : ∀ cs y, RStmt d w (· < w.heap.size) cs y → cs.length = 7 := fun cs y hy => by cases d with | zero => exact hy.elim | succ d => obtain ⟨_, _, _, rfl, -⟩ := hy; rfl
    obtain ⟨n1, l, hb, hall⟩ := struct_all (by simp) fieldsStmt h
    obtain ⟨y4, g4, k4⟩ := hall 4 _ rfl
    obtain ⟨y5, g5, k5⟩ := hall 5 _ rfl
    obtain ⟨y6, g6, k6⟩ := hall 6 _ rfl
    have h3 := dat_three (by decide) (by decide) g4 g5 g6
    rw [cellsOf_one _ c_exprs _ _ _ rfl] at k4
    rw [cellsOf_one _ c_stmts _ _ _ rfl] at k5 k6
    have c4 : cntEs es + 1 ≤ Rows.uptoBulk y4.1 := exprs_cntX h6 k4
    have c5 : (th.map cntS).sum + 1 ≤ Rows.uptoBulk y5.1 := slice_sum cntS Tryd.underlying31 c_stmt (by decide) hlen k5 h7 (fun y _ n cs z hr ht => stmt_cntX d n cs y z hr ht)
    have c6 : (el.map cntS).sum + 1 ≤ Rows.uptoBulk y6.1 := slice_sum cntS Tryd.underlying31 c_stmt (by decide) hlen k6 h8 (fun y _ n cs z hr ht => stmt_cntX d n cs y z hr ht)
    simp only [cntS, cntSs_sumX]
    omega
theorem stmts_cntX {d n : Nat} {v : Value} {l : List Stmt} {z : DataW H × List MemPlace} (h : RStmts d w (· < w.heap.size) v l) (k : DataW.trod enc Tryd.prog w 0 (fun _ => true) held n 31 [v] = some z) : cntSs l + 1 ≤ Rows.uptoBulk z.1 := by
  have hlen : ∀ cs y, RStmt d w (· < w.heap.size) cs y → cs.length = 7 := fun cs y hy => by cases d with | zero => exact hy.elim | succ d => obtain ⟨_, _, _, rfl, -⟩ := hy; rfl
  have c5 := slice_sum cntS Tryd.underlying31 c_stmt (by decide) hlen k h (fun y _ n cs z hr ht => stmt_cntX d n cs y z hr ht)
  rwa [← cntSs_sumX] at c5
theorem slots_cntX {n : Nat} {v : Value} {l : List Slot} {z : DataW H × List MemPlace} (h : RSlots w (· < w.heap.size) v l) (k : DataW.trod enc Tryd.prog w 0 (fun _ => true) held n 54 [v] = some z) : l.length + 1 ≤ Rows.uptoBulk z.1 := by
  have := slice_sum (fun _ : Slot => 1) Tryd.underlying54 c_slot (by decide) (fun cs y hy => (slot_rcs (w := w) (I := fun _ _ => False) hy).1) k h (fun y _ n cs z hr ht => bulk_one _)
  rwa [sumX_one] at this
theorem method_cntX {d n : Nat} {cs : List Value} {x : Method} {z : DataW H × List MemPlace} (hr : RMethod d w (· < w.heap.size) cs x) (h : DataW.trod enc Tryd.prog w 0 (fun _ => true) held n 62 cs = some z) : cntM x ≤ Rows.uptoBulk z.1 := by
  obtain ⟨pv, bv, rfl, -, -, hp, hb⟩ := hr
  obtain ⟨n1, l, hbu, hall⟩ := struct_all (by simp) fieldsMethod h
  obtain ⟨y2, g2, k2⟩ := hall 2 _ rfl
  obtain ⟨y3, g3, k3⟩ := hall 3 _ rfl
  have h2 := dat_two (by decide) g2 g3
  rw [cellsOf_one _ c_slots _ _ _ rfl] at k2
  rw [cellsOf_one _ c_stmts _ _ _ rfl] at k3
  have c2 := slots_cntX hp k2
  have c3 := stmts_cntX hb k3
  unfold cntM
  omega
theorem class_cntX {d n : Nat} {cs : List Value} {x : Class} {z : DataW H × List MemPlace} (hr : RClass d w (· < w.heap.size) cs x) (h : DataW.trod enc Tryd.prog w 0 (fun _ => true) held n 57 cs = some z) : cntC x ≤ Rows.uptoBulk z.1 := by
  obtain ⟨fv, mv, rfl, -, -, hf, hm⟩ := hr
  obtain ⟨n1, l, hbu, hall⟩ := struct_all (by simp) fieldsClass h
  obtain ⟨y2, g2, k2⟩ := hall 2 _ rfl
  obtain ⟨y3, g3, k3⟩ := hall 3 _ rfl
  have h2 := dat_two (by decide) g2 g3
  rw [cellsOf_one _ c_slots _ _ _ rfl] at k2
  rw [cellsOf_one _ c_methods _ _ _ rfl] at k3
  have c2 := slots_cntX hf k2
  have c3 := slice_sum cntM Tryd.underlying55 c_method (by decide) (fun cs y hy => by obtain ⟨_, _, rfl, -⟩ := hy; rfl) k3 hm (fun y _ n cs z hr ht => method_cntX hr ht)
  unfold cntC
  omega
theorem prog_cntX {d fuel : Nat} {cs : List Value} {x : DataW H × List MemPlace} {p : Program} (hp : RProgram d w (· < w.heap.size) (.agg cs.toArray) p) (h : DataW.trod enc Tryd.prog w 0 (fun _ => true) held fuel 33 cs = some x) : cntP p + 1 ≤ Rows.uptoBulk x.1 := by
  obtain ⟨cv, mv, e1, h1, hm⟩ := hp
  have e2 : cs = [cv, mv] := by simpa using congrArg Array.toList (Value.agg.inj e1)
  subst e2
  obtain ⟨n1, l, hbu, hall⟩ := struct_all (by simp) fieldsProgram h
  obtain ⟨y0, g0, k0⟩ := hall 0 _ rfl
  obtain ⟨y1, g1, k1⟩ := hall 1 _ rfl
  have h2 := dat_two (by decide) g0 g1
  rw [cellsOf_one _ c_classes _ _ _ rfl] at k0
  rw [cellsOf_one _ c_stmts _ _ _ rfl] at k1
  have c0 := slice_sum cntC Tryd.underlying30 c_class (by decide) (fun cs y hy => by obtain ⟨_, _, rfl, -⟩ := hy; rfl) k0 h1 (fun y _ n cs z hr ht => class_cntX hr ht)
  have c1 := stmts_cntX hm k1
  unfold cntP
  omega
end
end V
end Go.Proofs.YtbmbmcdaabhgnaaDoor
end
section
namespace Go.Proofs.YtbmbmcdaabhgnaaDoor
namespace V
open Go.RowKit
set_option linter.unusedSimpArgs false
def cStr (s : ByteArray) : List C := [.str s]
end V
end Go.Proofs.YtbmbmcdaabhgnaaDoor
end
section
set_option linter.unusedVariables false
set_option linter.unusedSimpArgs false
namespace Go.Proofs.YtbmbmcdaabhgnaaDoor
namespace V
open Go.RowKit
def cShape (s : Shape) : List C := [.int .i64 s.least, .int .i64 s.most, .bool s.name, .int .i64 s.num, .int .i64 s.level, .str s.sign]
theorem shapeOf_any {p : Shape → Prop} (h0 : p noShape) (h : ∀ s ∈ shapes, p s) (k : Int) : p (shapeOf k).1 := by
  unfold shapeOf
  split
  · dsimp only
    rw [List.getD_eq_getElem?_getD]
    cases hx : shapes[(k - 1).toNat]? with
    | none => exact h0
    | some s => exact h s (List.mem_of_getElem? hx)
  · exact h0
theorem shape_wf (k : Int) : (Lit.int .i64 (shapeOf k).1.least).wf = true ∧ (Lit.int .i64 (shapeOf k).1.most).wf = true ∧ (Lit.int .i64 (shapeOf k).1.num).wf = true ∧ (Lit.int .i64 (shapeOf k).1.level).wf = true ∧ (shapeOf k).1.sign.size ≤ 4 := by
  refine shapeOf_any (p := fun s => (Lit.int .i64 s.least).wf = true ∧ (Lit.int .i64 s.most).wf = true ∧ (Lit.int .i64 s.num).wf = true ∧ (Lit.int .i64 s.level).wf = true ∧ s.sign.size ≤ 4) (by decide) (fun s hs => ?_) k
  revert s
  decide
theorem of_ok (k : Int) (m : Mem) : COk Tryd.prog 36 [.c (.int .i64 k)] m (.tup [(true, cShape (shapeOf k).1), (false, [.bool (shapeOf k).2])]) := by
  refine ⟨enters_of Tryd.func36 (by kernel_rfl) rfl, rfl, fun m' _ => ?_⟩
  intro w0 I0 B I w vals hm hv
  match vals, hv with
  | [v], ⟨h1, _⟩ =>
    cases h1
    refine (of_any k w).mono ?_
    rintro e w' ⟨rfl, hb⟩
    obtain ⟨s1, s2, s3, s4, s5⟩ := shape_wf k
    refine ⟨_, I, rfl, hb, fun _ _ k => k, fun _ _ k => .inl k, ?_⟩
    exact ⟨_, rfl, ⟨_, rfl, .int s1, .int s2, .bool, .int s3, .int s4, .str (Nat.le_trans s5 (by decide)), trivial⟩, ⟨_, rfl, .bool⟩, trivial⟩
theorem fmt_ok (n : Int) (m : Mem) : COk Tryd.prog 87 [.c (.int .i64 n), .c (.int .i64 10)] m (.c (.str ⟨(Lib.itoa n).toArray⟩)) := by
  refine ⟨enters_of Tryd.func87 (by kernel_rfl) rfl, rfl, fun m' _ => ?_⟩
  intro w0 I0 B I w vals hm hv
  match vals, hv with
  | [v, v2], ⟨h1, h2, _⟩ =>
    cases h1 with
    | int hn =>
    cases h2
    obtain ⟨q1, q2⟩ := lit_wf.1 hn
    have q1 : -9223372036854775808 ≤ n := q1
    have q2 : n ≤ 9223372036854775807 := q2
    have q3 := Lib.itoa_length_le n q1 q2
    refine (Tryd.internal_strconv_FormatInt_10 n q1 q2 w hm.globNow.tens).mono ?_
    rintro e w' ⟨rfl, k, os, rfl⟩
    exact ⟨_, I, rfl, Lib.below_grow _ _ (Nat.le_refl _) _ _, fun _ _ k => k, fun _ _ k => .inl k, .str (Nat.le_trans (show (Lib.itoa n).toArray.size ≤ 21 by simpa using q3) (by decide))⟩
theorem fint_ok (n : Int) (m : Mem) : COk Tryd.prog 67 [.c (.int .i64 n), .c (.int .i64 10)] m (.c (.str ⟨(Lib.itoa n).toArray⟩)) := by
  refine (ok_pure tab_ok Tryd.func67 (by kernel_rfl) rfl rfl (by rfl) (by rfl) (by rfl) (fun R hkeep => ?_) m)
  repeat (first | refine W.seq ?_ | refine W.block ?_ | refine W.skip ?_ | refine W.exit ?_ | refine W.region tab_ok 0 (by decide) (exec_run (by simp only [exa, beq_self_eq_true, ByteArray.size, Nat.reduceAdd, Nat.reduceLeDiff, Nat.reduceEqDiff, Nat.reduceMul, Int.reduceToNat, reduceIte, Int.reduceLE, Int.reduceNeg]; rfl)) ?_)
  refine W.regionK tab_ok 0 (by decide) ?_
  refine runk_split 2 (by simp only [exa, beq_self_eq_true, ByteArray.size, Nat.reduceAdd, Nat.reduceLeDiff, Nat.reduceEqDiff, Nat.reduceMul, Int.reduceToNat, reduceIte, Int.reduceLE, Int.reduceNeg]; rfl) ?_
  refine runk_call rfl rfl rfl rfl rfl (by simp) (cvs_cons cv_refl (cvs_cons cv_refl cvs_nil)) (fmt_ok n _) ?_
  refine runk_exec (by simp only [exa, beq_self_eq_true, ByteArray.size, Nat.reduceAdd, Nat.reduceLeDiff, Nat.reduceEqDiff, Nat.reduceMul, Int.reduceToNat, reduceIte, Int.reduceLE, Int.reduceNeg]; rfl) ?_
  repeat (first | refine W.seq ?_ | refine W.block ?_ | refine W.skip ?_ | refine W.exit ?_ | refine W.region tab_ok 0 (by decide) (exec_run (by simp only [exa, beq_self_eq_true, ByteArray.size, Nat.reduceAdd, Nat.reduceLeDiff, Nat.reduceEqDiff, Nat.reduceMul, Int.reduceToNat, reduceIte, Int.reduceLE, Int.reduceNeg]; rfl)) ?_)
  refine W.ret ⟨.inr rfl, by rfl, ?_⟩
  simp only [Tryd.f67, resA, resOne, toT, fin, exa, beq_self_eq_true, ByteArray.size, Nat.reduceAdd, Nat.reduceLeDiff, Nat.reduceEqDiff, Nat.reduceMul, Int.reduceToNat, reduceIte, Int.reduceLE, Int.reduceNeg]
theorem num_ok (n : Int) (m : Mem) : COk Tryd.prog 39 [.c (.int .i64 n)] m (.c (.str ⟨(Lib.itoa n).toArray⟩)) := by
  refine (ok_pure tab_ok Tryd.func39 (by kernel_rfl) rfl rfl (by rfl) (by rfl) (by rfl) (fun R hkeep => ?_) m)
  repeat (first | refine W.seq ?_ | refine W.block ?_ | refine W.skip ?_ | refine W.exit ?_ | refine W.region tab_ok 0 (by decide) (exec_run (by simp only [exa, beq_self_eq_true, ByteArray.size, Nat.reduceAdd, Nat.reduceLeDiff, Nat.reduceEqDiff, Nat.reduceMul, Int.reduceToNat, reduceIte, Int.reduceLE, Int.reduceNeg]; rfl)) ?_)
  refine W.regionK tab_ok 0 (by decide) ?_
  refine runk_split 1 (by simp only [exa, beq_self_eq_true, ByteArray.size, Nat.reduceAdd, Nat.reduceLeDiff, Nat.reduceEqDiff, Nat.reduceMul, Int.reduceToNat, reduceIte, Int.reduceLE, Int.reduceNeg]; rfl) ?_
  refine runk_call rfl rfl rfl rfl rfl (by simp) (cvs_cons cv_refl (cvs_cons cv_refl cvs_nil)) (fint_ok n _) ?_
  refine runk_exec (by simp only [exa, beq_self_eq_true, ByteArray.size, Nat.reduceAdd, Nat.reduceLeDiff, Nat.reduceEqDiff, Nat.reduceMul, Int.reduceToNat, reduceIte, Int.reduceLE, Int.reduceNeg]; rfl) ?_
  repeat (first | refine W.seq ?_ | refine W.block ?_ | refine W.skip ?_ | refine W.exit ?_ | refine W.region tab_ok 0 (by decide) (exec_run (by simp only [exa, beq_self_eq_true, ByteArray.size, Nat.reduceAdd, Nat.reduceLeDiff, Nat.reduceEqDiff, Nat.reduceMul, Int.reduceToNat, reduceIte, Int.reduceLE, Int.reduceNeg]; rfl)) ?_)
  refine W.ret ⟨.inr rfl, by rfl, ?_⟩
  simp only [Tryd.f39, resA, resOne, toT, fin, exa, beq_self_eq_true, ByteArray.size, Nat.reduceAdd, Nat.reduceLeDiff, Nat.reduceEqDiff, Nat.reduceMul, Int.reduceToNat, reduceIte, Int.reduceLE, Int.reduceNeg]
end V
end Go.Proofs.YtbmbmcdaabhgnaaDoor
end
section
set_option linter.unusedVariables false
set_option linter.unusedSimpArgs false
namespace Go.Proofs.YtbmbmcdaabhgnaaDoor
namespace V
open Go.RowKit
abbrev strX (l : List UInt8) : ByteArray := ⟨l.toArray⟩
theorem strX_of (s : ByteArray) : s = strX s.data.toList := by
  apply ByteArray.ext; simp [strX]
theorem if_le {a n : Nat} {α : Type} {x y : α} (h : a ≤ n) : (if a ≤ n then x else y) = x := if_pos h
end V
end Go.Proofs.YtbmbmcdaabhgnaaDoor
end
section
set_option linter.unusedVariables false
set_option linter.unusedSimpArgs false
namespace Go.Proofs.YtbmbmcdaabhgnaaDoor
namespace V
open Go.RowKit
theorem cntE_mem : ∀ {l : List Expr} {y : Expr}, y ∈ l → cntE y ≤ cntEs l
  | x :: l, y, h => by
    simp only [cntEs]
    rcases List.mem_cons.1 h with rfl | h
    · omega
    · have := cntE_mem h; omega
end V
end Go.Proofs.YtbmbmcdaabhgnaaDoor
end
section
set_option linter.unusedVariables false
set_option linter.unusedSimpArgs false
namespace Go.Proofs.YtbmbmcdaabhgnaaDoor
namespace V
open Go.RowKit
noncomputable def eqX {α : Type} (a b : α) : Bool := @decide (a = b) (Classical.propDecidable _)
theorem eqX_true {α : Type} {a b : α} (h : a = b) : eqX a b = true := by unfold eqX; simp [h]
theorem eqX_false {α : Type} {a b : α} (h : a ≠ b) : eqX a b = false := by unfold eqX; simp [h]
theorem cntEs_len : ∀ l : List Expr, l.length ≤ cntEs l
  | [] => by simp
  | ⟨_, _, _, _⟩ :: l => by have := cntEs_len l; simp only [cntEs, cntE, List.length_cons]; omega
theorem take_next {α : Type} {l l' : List α} {k : Nat} {x : α} (h : l.take k = l'.take k) (hx : l[k]? = some x) (hy : l'[k]? = some x) : l.take (k + 1) = l'.take (k + 1) := by
  rw [List.take_add_one, List.take_add_one, h, hx, hy]
theorem ne_at {α : Type} {l l' : List α} {k : Nat} {x y : α} (hx : l[k]? = some x) (hy : l'[k]? = some y) (h : x ≠ y) : l ≠ l' := by
  rintro rfl
  rw [hx] at hy
  exact h (Option.some.inj hy)
theorem bytes_beq {a b : ByteArray} : (a.toList == b.toList) = eqX a b := by
  by_cases h : a = b
  · subst h; rw [eqX_true rfl]; simp
  · rw [eqX_false h]
    rw [beq_eq_false_iff_ne]
    intro e
    exact h (by rw [toListX, toListX] at e; apply ByteArray.ext; apply Array.ext'; exact e)
set_option maxHeartbeats 4000000 in
theorem sameE_ok : ∀ (z : Nat) (l l' : List Expr), cntEs l ≤ z → z ≤ 1048576 → ∀ m, COk Tryd.prog 55 [.c (.sl (cExprs l)), .c (.sl (cExprs l'))] m (.c (.bool (eqX l l'))) := by
  intro z
  induction z using Nat.strongRecOn with
  | ind z ih =>
  intro l l' hz hz2 m
  have hll := cntEs_len l
  rw [cExprs_map, cExprs_map]
  refine (ok_pure tab_ok Tryd.func55 (by kernel_rfl) rfl rfl (by rfl) (by rfl) (by rfl) (fun R hkeep => ?_) m)
  by_cases hle : l.length = l'.length
  · have hle2 : ((l.length : Int) = (l'.length : Int)) = True := eq_true (by omega)
    repeat (first | refine W.seq ?_ | refine W.block ?_ | refine W.skip ?_ | refine W.exit ?_ | refine W.region tab_ok 0 (by decide) (exec_run (by simp only [exa, beq_self_eq_true, ByteArray.size, Nat.reduceAdd, Nat.reduceLeDiff, Nat.reduceEqDiff, Nat.reduceMul, Int.reduceToNat, reduceIte, Int.reduceLE, Int.reduceNeg, List.length_map, hle2]; rfl)) ?_)
    refine W.cond rfl (fun h => absurd h (by decide)) (fun _ => ?_)
    repeat (first | refine W.seq ?_ | refine W.block ?_ | refine W.skip ?_ | refine W.exit ?_ | refine W.region tab_ok 0 (by decide) (exec_run (by simp only [exa, beq_self_eq_true, ByteArray.size, Nat.reduceAdd, Nat.reduceLeDiff, Nat.reduceEqDiff, Nat.reduceMul, Int.reduceToNat, reduceIte, Int.reduceLE, Int.reduceNeg]; rfl)) ?_)
    refine W.loop (ι := Nat) (fun k => ⟨upd (upd (upd (upd (fun _ => .top) 0 (.c (.sl (l.map cExpr)))) 1 (.c (.sl (l'.map cExpr)))) 12 (.c (.int .i64 l.length))) 13 (.c (.int .i64 k)), Mem.nil⟩) (fun k => k ≤ l.length ∧ l.take k = l'.take k) (fun k => l.length - k) 0 ?start ⟨Nat.zero_le _, rfl⟩ ?round
    case start =>
      refine le_mk ?sle ?mle ?swf ?mwf ?kept (by rfl)
      case kept => exact kept_not hkeep
      case swf => repeat (first | exact swf_top _ | refine swf_upd ?_ (by simp [A.ids, upd_app]))
      case mwf => repeat (first | exact mwf_nil _ | refine mwf_upd ?_ (by simp [A.ids, O.ids, upd_app]))
      case mle => repeat (first | exact mle_nil _ | exact mle_refl _ | refine mle_upd ?_ (by first | rfl | (simp only [upd_app, killM_app, Nat.reduceEqDiff, reduceIte, List.length_map]; done)))
      case sle => repeat (first | exact sle_top _ | exact sle_refl _ | refine sle_upd ?_ (by first | rfl | (simp only [upd_app, entry_zero, entry_succ, Nat.reduceEqDiff, reduceIte, List.length_map]; done)))
    case round =>
      rintro k ⟨hk, htk⟩
      repeat (first | refine W.seq ?_ | refine W.block ?_ | refine W.skip ?_ | refine W.exit ?_ | refine W.region tab_ok 0 (by decide) (exec_run (by simp only [exa, beq_self_eq_true, ByteArray.size, Nat.reduceAdd, Nat.reduceLeDiff, Nat.reduceEqDiff, Nat.reduceMul, Int.reduceToNat, reduceIte, Int.reduceLE, Int.reduceNeg]; rfl)) ?_)
      refine W.cond rfl ?_ ?_
      · intro hlt
        simp only [decide_eq_true_eq, Int.ofNat_lt] at hlt
        obtain ⟨x, hxk⟩ : ∃ x, l[k]? = some x := ⟨_, List.getElem?_eq_getElem hlt⟩
        obtain ⟨y, hyk⟩ : ∃ y, l'[k]? = some y := ⟨_, List.getElem?_eq_getElem (by omega)⟩
        have hat := at_map (f := cExpr) hxk
        have hat' := at_map (f := cExpr) hyk
        have hcm := cntE_mem (List.mem_of_getElem? hxk)
        obtain ⟨xk, xn, xm, xs⟩ := x
        obtain ⟨yk, yn, ym, ys⟩ := y
        simp only [cntE] at hcm
        have hrec := ih (cntEs xs) (by omega) xs ys (Nat.le_refl _) (by omega)
        simp only [cExpr] at hat hat'
        repeat (first | refine W.seq ?_ | refine W.block ?_ | refine W.skip ?_ | refine W.exit ?_ | refine W.region tab_ok 0 (by decide) (exec_run (by simp only [exa, beq_self_eq_true, ByteArray.size, Nat.reduceAdd, Nat.reduceLeDiff, Nat.reduceEqDiff, Nat.reduceMul, Int.reduceToNat, reduceIte, Int.reduceLE, Int.reduceNeg]; rfl)) ?_)
        (repeat (first | refine W.seq ?_ | refine W.block ?_ | refine W.skip ?_ | refine W.exit ?_))
        refine W.regionDK tab_ok 0 follows_mixed (by kernel_rfl) (by decide) ?_
        by_cases e1 : xk = yk
        case neg =>
          have hne := eqX_false (ne_at hxk hyk (fun h => e1 (congrArg Expr.kind h)))
          rw [hne]
          refine runk_exec (by simp only [exa, beq_self_eq_true, ByteArray.size, Nat.reduceAdd, Nat.reduceLeDiff, Nat.reduceEqDiff, Nat.reduceMul, Int.reduceToNat, reduceIte, Int.reduceLE, Int.reduceNeg, decide_true, decide_false, Bool.not_true, Bool.not_false, eq_self, bytes_beq, eqX_true rfl, hat, hat', eq_false e1]; rfl) ?_
          (repeat (first | refine W.seq ?_ | refine W.block ?_ | refine W.skip ?_ | refine W.exit ?_))
          refine W.cond rfl (fun _ => ?_) (fun h => absurd h (by decide))
          repeat (first | refine W.seq ?_ | refine W.block ?_ | refine W.skip ?_ | refine W.exit ?_ | refine W.region tab_ok 0 (by decide) (exec_run (by simp only [exa, beq_self_eq_true, ByteArray.size, Nat.reduceAdd, Nat.reduceLeDiff, Nat.reduceEqDiff, Nat.reduceMul, Int.reduceToNat, reduceIte, Int.reduceLE, Int.reduceNeg]; rfl)) ?_)
          refine W.ret ⟨.inr rfl, by rfl, ?_⟩
          simp only [Tryd.f55, resA, resOne, toT, fin, exa, beq_self_eq_true, ByteArray.size, Nat.reduceAdd, Nat.reduceLeDiff, Nat.reduceEqDiff, Nat.reduceMul, Int.reduceToNat, reduceIte, Int.reduceLE, Int.reduceNeg]
        subst e1
        by_cases e2 : xn = yn
        case neg =>
          have hne := eqX_false (ne_at hxk hyk (fun h => e2 (congrArg Expr.num h)))
          rw [hne]
          refine runk_exec (by simp only [exa, beq_self_eq_true, ByteArray.size, Nat.reduceAdd, Nat.reduceLeDiff, Nat.reduceEqDiff, Nat.reduceMul, Int.reduceToNat, reduceIte, Int.reduceLE, Int.reduceNeg, decide_true, decide_false, Bool.not_true, Bool.not_false, eq_self, bytes_beq, eqX_true rfl, hat, hat', eq_false e2]; rfl) ?_
          (repeat (first | refine W.seq ?_ | refine W.block ?_ | refine W.skip ?_ | refine W.exit ?_))
          refine W.cond rfl (fun _ => ?_) (fun h => absurd h (by decide))
          repeat (first | refine W.seq ?_ | refine W.block ?_ | refine W.skip ?_ | refine W.exit ?_ | refine W.region tab_ok 0 (by decide) (exec_run (by simp only [exa, beq_self_eq_true, ByteArray.size, Nat.reduceAdd, Nat.reduceLeDiff, Nat.reduceEqDiff, Nat.reduceMul, Int.reduceToNat, reduceIte, Int.reduceLE, Int.reduceNeg]; rfl)) ?_)
          refine W.ret ⟨.inr rfl, by rfl, ?_⟩
          simp only [Tryd.f55, resA, resOne, toT, fin, exa, beq_self_eq_true, ByteArray.size, Nat.reduceAdd, Nat.reduceLeDiff, Nat.reduceEqDiff, Nat.reduceMul, Int.reduceToNat, reduceIte, Int.reduceLE, Int.reduceNeg]
        subst e2
        by_cases e3 : xm = ym
        case neg =>
          have hne := eqX_false (ne_at hxk hyk (fun h => e3 (congrArg Expr.name h)))
          rw [hne]
          refine runk_exec (by simp only [exa, beq_self_eq_true, ByteArray.size, Nat.reduceAdd, Nat.reduceLeDiff, Nat.reduceEqDiff, Nat.reduceMul, Int.reduceToNat, reduceIte, Int.reduceLE, Int.reduceNeg, decide_true, decide_false, Bool.not_true, Bool.not_false, eq_self, bytes_beq, eqX_true rfl, hat, hat', eqX_false e3]; rfl) ?_
          (repeat (first | refine W.seq ?_ | refine W.block ?_ | refine W.skip ?_ | refine W.exit ?_))
          refine W.cond rfl (fun _ => ?_) (fun h => absurd h (by decide))
          repeat (first | refine W.seq ?_ | refine W.block ?_ | refine W.skip ?_ | refine W.exit ?_ | refine W.region tab_ok 0 (by decide) (exec_run (by simp only [exa, beq_self_eq_true, ByteArray.size, Nat.reduceAdd, Nat.reduceLeDiff, Nat.reduceEqDiff, Nat.reduceMul, Int.reduceToNat, reduceIte, Int.reduceLE, Int.reduceNeg]; rfl)) ?_)
          refine W.ret ⟨.inr rfl, by rfl, ?_⟩
          simp only [Tryd.f55, resA, resOne, toT, fin, exa, beq_self_eq_true, ByteArray.size, Nat.reduceAdd, Nat.reduceLeDiff, Nat.reduceEqDiff, Nat.reduceMul, Int.reduceToNat, reduceIte, Int.reduceLE, Int.reduceNeg]
        subst e3
        refine runk_split 48 (by simp only [exa, beq_self_eq_true, ByteArray.size, Nat.reduceAdd, Nat.reduceLeDiff, Nat.reduceEqDiff, Nat.reduceMul, Int.reduceToNat, reduceIte, Int.reduceLE, Int.reduceNeg, decide_true, decide_false, Bool.not_true, Bool.not_false, eq_self, bytes_beq, eqX_true rfl, hat, hat']; rfl) ?_
        refine runk_call rfl rfl rfl rfl rfl (by simp) (cvs_cons cv_refl (cvs_cons cv_refl cvs_nil)) (hrec _) ?_
        by_cases e4 : xs = ys
        case neg =>
          rw [eqX_false e4]
          have hne := eqX_false (ne_at hxk hyk (fun h => e4 (congrArg Expr.kids h)))
          rw [hne]
          refine runk_exec (by simp only [exa, beq_self_eq_true, ByteArray.size, Nat.reduceAdd, Nat.reduceLeDiff, Nat.reduceEqDiff, Nat.reduceMul, Int.reduceToNat, reduceIte, Int.reduceLE, Int.reduceNeg, decide_true, decide_false, Bool.not_true, Bool.not_false, eq_self, bytes_beq, eqX_true rfl, hat, hat']; rfl) ?_
          (repeat (first | refine W.seq ?_ | refine W.block ?_ | refine W.skip ?_ | refine W.exit ?_))
          refine W.cond rfl (fun _ => ?_) (fun h => absurd h (by decide))
          repeat (first | refine W.seq ?_ | refine W.block ?_ | refine W.skip ?_ | refine W.exit ?_ | refine W.region tab_ok 0 (by decide) (exec_run (by simp only [exa, beq_self_eq_true, ByteArray.size, Nat.reduceAdd, Nat.reduceLeDiff, Nat.reduceEqDiff, Nat.reduceMul, Int.reduceToNat, reduceIte, Int.reduceLE, Int.reduceNeg]; rfl)) ?_)
          refine W.ret ⟨.inr rfl, by rfl, ?_⟩
          simp only [Tryd.f55, resA, resOne, toT, fin, exa, beq_self_eq_true, ByteArray.size, Nat.reduceAdd, Nat.reduceLeDiff, Nat.reduceEqDiff, Nat.reduceMul, Int.reduceToNat, reduceIte, Int.reduceLE, Int.reduceNeg]
        subst e4
        rw [eqX_true (rfl : xs = xs)]
        refine runk_exec (by simp only [exa, beq_self_eq_true, ByteArray.size, Nat.reduceAdd, Nat.reduceLeDiff, Nat.reduceEqDiff, Nat.reduceMul, Int.reduceToNat, reduceIte, Int.reduceLE, Int.reduceNeg, decide_true, decide_false, Bool.not_true, Bool.not_false, eq_self, bytes_beq, eqX_true rfl, hat, hat']; rfl) ?_
        (repeat (first | refine W.seq ?_ | refine W.block ?_ | refine W.skip ?_ | refine W.exit ?_))
        refine W.cond rfl (fun h => absurd h (by decide)) (fun _ => ?_)
        repeat (first | refine W.seq ?_ | refine W.block ?_ | refine W.skip ?_ | refine W.exit ?_ | refine W.region tab_ok 0 (by decide) (exec_run (by simp only [exa, beq_self_eq_true, ByteArray.size, Nat.reduceAdd, Nat.reduceLeDiff, Nat.reduceEqDiff, Nat.reduceMul, Int.reduceToNat, reduceIte, Int.reduceLE, Int.reduceNeg]; rfl)) ?_)
        refine ⟨k + 1, ⟨hlt, take_next htk hxk hyk⟩, by omega, ?_⟩
        refine le_mk ?sle ?mle ?swf ?mwf ?kept (by rfl)
        case kept => exact kept_not hkeep
        case swf => repeat (first | exact swf_top _ | refine swf_upd ?_ (by simp [A.ids, upd_app]))
        case mwf => repeat (first | exact mwf_nil _ | refine mwf_upd ?_ (by simp [A.ids, O.ids, upd_app]))
        case mle => repeat (first | exact mle_nil _ | exact mle_refl _ | refine mle_upd ?_ (by first | rfl | (simp only [upd_app, killM_app, Nat.reduceEqDiff, reduceIte, wrap_succ (show k + 1 < 9223372036854775808 by omega)]; done)))
        case sle => repeat (first | exact sle_top _ | exact sle_refl _ | refine sle_upd ?_ (by first | rfl | (simp only [upd_app, entry_zero, entry_succ, Nat.reduceEqDiff, reduceIte, wrap_succ (show k + 1 < 9223372036854775808 by omega)]; done)))
      · intro hge
        simp only [decide_eq_false_iff_not, Int.ofNat_lt] at hge
        obtain rfl : k = l.length := by omega
        have : l = l' := by rw [List.take_length, hle, List.take_length] at htk; exact htk
        rw [eqX_true this]
        repeat (first | refine W.seq ?_ | refine W.block ?_ | refine W.skip ?_ | refine W.exit ?_ | refine W.region tab_ok 0 (by decide) (exec_run (by simp only [exa, beq_self_eq_true, ByteArray.size, Nat.reduceAdd, Nat.reduceLeDiff, Nat.reduceEqDiff, Nat.reduceMul, Int.reduceToNat, reduceIte, Int.reduceLE, Int.reduceNeg]; rfl)) ?_)
        refine W.ret ⟨.inr rfl, by rfl, ?_⟩
        simp only [Tryd.f55, resA, resOne, toT, fin, exa, beq_self_eq_true, ByteArray.size, Nat.reduceAdd, Nat.reduceLeDiff, Nat.reduceEqDiff, Nat.reduceMul, Int.reduceToNat, reduceIte, Int.reduceLE, Int.reduceNeg]
  · have hle2 : ((l.length : Int) = (l'.length : Int)) = False := eq_false (by omega)
    rw [eqX_false (fun e => hle (by rw [e]))]
    repeat (first | refine W.seq ?_ | refine W.block ?_ | refine W.skip ?_ | refine W.exit ?_ | refine W.region tab_ok 0 (by decide) (exec_run (by simp only [exa, beq_self_eq_true, ByteArray.size, Nat.reduceAdd, Nat.reduceLeDiff, Nat.reduceEqDiff, Nat.reduceMul, Int.reduceToNat, reduceIte, Int.reduceLE, Int.reduceNeg, List.length_map, hle2]; rfl)) ?_)
    refine W.cond rfl (fun _ => ?_) (fun h => absurd h (by decide))
    repeat (first | refine W.seq ?_ | refine W.block ?_ | refine W.skip ?_ | refine W.exit ?_ | refine W.region tab_ok 0 (by decide) (exec_run (by simp only [exa, beq_self_eq_true, ByteArray.size, Nat.reduceAdd, Nat.reduceLeDiff, Nat.reduceEqDiff, Nat.reduceMul, Int.reduceToNat, reduceIte, Int.reduceLE, Int.reduceNeg]; rfl)) ?_)
    refine W.ret ⟨.inr rfl, by rfl, ?_⟩
    simp only [Tryd.f55, resA, resOne, toT, fin, exa, beq_self_eq_true, ByteArray.size, Nat.reduceAdd, Nat.reduceLeDiff, Nat.reduceEqDiff, Nat.reduceMul, Int.reduceToNat, reduceIte, Int.reduceLE, Int.reduceNeg]
set_option maxHeartbeats 4000000 in
theorem sameSl_ok (l l' : List Slot) (hll : l.length ≤ 1048576) (m : Mem) : COk Tryd.prog 31 [.c (.sl (l.map cSlot)), .c (.sl (l'.map cSlot))] m (.c (.bool (eqX l l'))) := by
  refine (ok_pure tab_ok Tryd.func31 (by kernel_rfl) rfl rfl (by rfl) (by rfl) (by rfl) (fun R hkeep => ?_) m)
  by_cases hle : l.length = l'.length
  · have hle2 : ((l.length : Int) = (l'.length : Int)) = True := eq_true (by omega)
    repeat (first | refine W.seq ?_ | refine W.block ?_ | refine W.skip ?_ | refine W.exit ?_ | refine W.region tab_ok 0 (by decide) (exec_run (by simp only [exa, beq_self_eq_true, ByteArray.size, Nat.reduceAdd, Nat.reduceLeDiff, Nat.reduceEqDiff, Nat.reduceMul, Int.reduceToNat, reduceIte, Int.reduceLE, Int.reduceNeg, List.length_map, hle2]; rfl)) ?_)
    refine W.cond rfl (fun h => absurd h (by decide)) (fun _ => ?_)
    repeat (first | refine W.seq ?_ | refine W.block ?_ | refine W.skip ?_ | refine W.exit ?_ | refine W.region tab_ok 0 (by decide) (exec_run (by simp only [exa, beq_self_eq_true, ByteArray.size, Nat.reduceAdd, Nat.reduceLeDiff, Nat.reduceEqDiff, Nat.reduceMul, Int.reduceToNat, reduceIte, Int.reduceLE, Int.reduceNeg]; rfl)) ?_)
    refine W.loop (ι := Nat) (fun k => ⟨upd (upd (upd (upd (fun _ => .top) 0 (.c (.sl (l.map cSlot)))) 1 (.c (.sl (l'.map cSlot)))) 12 (.c (.int .i64 l.length))) 13 (.c (.int .i64 k)), Mem.nil⟩) (fun k => k ≤ l.length ∧ l.take k = l'.take k) (fun k => l.length - k) 0 ?start ⟨Nat.zero_le _, rfl⟩ ?round
    case start =>
      refine le_mk ?sle ?mle ?swf ?mwf ?kept (by rfl)
      case kept => exact kept_not hkeep
      case swf => repeat (first | exact swf_top _ | refine swf_upd ?_ (by simp [A.ids, upd_app]))
      case mwf => repeat (first | exact mwf_nil _ | refine mwf_upd ?_ (by simp [A.ids, O.ids, upd_app]))
      case mle => repeat (first | exact mle_nil _ | exact mle_refl _ | refine mle_upd ?_ (by first | rfl | (simp only [upd_app, killM_app, Nat.reduceEqDiff, reduceIte, List.length_map]; done)))
      case sle => repeat (first | exact sle_top _ | exact sle_refl _ | refine sle_upd ?_ (by first | rfl | (simp only [upd_app, entry_zero, entry_succ, Nat.reduceEqDiff, reduceIte, List.length_map]; done)))
    case round =>
      rintro k ⟨hk, htk⟩
      repeat (first | refine W.seq ?_ | refine W.block ?_ | refine W.skip ?_ | refine W.exit ?_ | refine W.region tab_ok 0 (by decide) (exec_run (by simp only [exa, beq_self_eq_true, ByteArray.size, Nat.reduceAdd, Nat.reduceLeDiff, Nat.reduceEqDiff, Nat.reduceMul, Int.reduceToNat, reduceIte, Int.reduceLE, Int.reduceNeg]; rfl)) ?_)
      refine W.cond rfl ?_ ?_
      · intro hlt
        simp only [decide_eq_true_eq, Int.ofNat_lt] at hlt
        obtain ⟨x, hxk⟩ : ∃ x, l[k]? = some x := ⟨_, List.getElem?_eq_getElem hlt⟩
        obtain ⟨y, hyk⟩ : ∃ y, l'[k]? = some y := ⟨_, List.getElem?_eq_getElem (by omega)⟩
        have hat := at_map (f := cSlot) hxk
        have hat' := at_map (f := cSlot) hyk
        obtain ⟨xt, xm⟩ := x
        obtain ⟨yt, ym⟩ := y
        simp only [cSlot] at hat hat'
        repeat (first | refine W.seq ?_ | refine W.block ?_ | refine W.skip ?_ | refine W.exit ?_ | refine W.region tab_ok 0 (by decide) (exec_run (by simp only [exa, beq_self_eq_true, ByteArray.size, Nat.reduceAdd, Nat.reduceLeDiff, Nat.reduceEqDiff, Nat.reduceMul, Int.reduceToNat, reduceIte, Int.reduceLE, Int.reduceNeg]; rfl)) ?_)
        (repeat (first | refine W.seq ?_ | refine W.block ?_ | refine W.skip ?_ | refine W.exit ?_))
        refine W.regionDK tab_ok 0 follows_mixed (by kernel_rfl) (by decide) ?_
        by_cases e1 : xt = yt
        case neg =>
          have hne := eqX_false (ne_at hxk hyk (fun h => e1 (congrArg Slot.type h)))
          rw [hne]
          refine runk_exec (by simp only [exa, beq_self_eq_true, ByteArray.size, Nat.reduceAdd, Nat.reduceLeDiff, Nat.reduceEqDiff, Nat.reduceMul, Int.reduceToNat, reduceIte, Int.reduceLE, Int.reduceNeg, decide_true, decide_false, Bool.not_true, Bool.not_false, eq_self, bytes_beq, eqX_true rfl, hat, hat', eqX_false e1, Bool.false_and, Bool.and_false]; rfl) ?_
          (repeat (first | refine W.seq ?_ | refine W.block ?_ | refine W.skip ?_ | refine W.exit ?_))
          refine W.cond rfl (fun _ => ?_) (fun h => absurd h (by decide))
          repeat (first | refine W.seq ?_ | refine W.block ?_ | refine W.skip ?_ | refine W.exit ?_ | refine W.region tab_ok 0 (by decide) (exec_run (by simp only [exa, beq_self_eq_true, ByteArray.size, Nat.reduceAdd, Nat.reduceLeDiff, Nat.reduceEqDiff, Nat.reduceMul, Int.reduceToNat, reduceIte, Int.reduceLE, Int.reduceNeg]; rfl)) ?_)
          refine W.ret ⟨.inr rfl, by rfl, ?_⟩
          simp only [Tryd.f31, resA, resOne, toT, fin, exa, beq_self_eq_true, ByteArray.size, Nat.reduceAdd, Nat.reduceLeDiff, Nat.reduceEqDiff, Nat.reduceMul, Int.reduceToNat, reduceIte, Int.reduceLE, Int.reduceNeg]
        subst e1
        by_cases e2 : xm = ym
        case neg =>
          have hne := eqX_false (ne_at hxk hyk (fun h => e2 (congrArg Slot.name h)))
          rw [hne]
          refine runk_exec (by simp only [exa, beq_self_eq_true, ByteArray.size, Nat.reduceAdd, Nat.reduceLeDiff, Nat.reduceEqDiff, Nat.reduceMul, Int.reduceToNat, reduceIte, Int.reduceLE, Int.reduceNeg, decide_true, decide_false, Bool.not_true, Bool.not_false, eq_self, bytes_beq, eqX_true rfl, hat, hat', eqX_false e2, Bool.and_false, Bool.true_and, Bool.false_and]; rfl) ?_
          (repeat (first | refine W.seq ?_ | refine W.block ?_ | refine W.skip ?_ | refine W.exit ?_))
          refine W.cond rfl (fun _ => ?_) (fun h => absurd h (by decide))
          repeat (first | refine W.seq ?_ | refine W.block ?_ | refine W.skip ?_ | refine W.exit ?_ | refine W.region tab_ok 0 (by decide) (exec_run (by simp only [exa, beq_self_eq_true, ByteArray.size, Nat.reduceAdd, Nat.reduceLeDiff, Nat.reduceEqDiff, Nat.reduceMul, Int.reduceToNat, reduceIte, Int.reduceLE, Int.reduceNeg]; rfl)) ?_)
          refine W.ret ⟨.inr rfl, by rfl, ?_⟩
          simp only [Tryd.f31, resA, resOne, toT, fin, exa, beq_self_eq_true, ByteArray.size, Nat.reduceAdd, Nat.reduceLeDiff, Nat.reduceEqDiff, Nat.reduceMul, Int.reduceToNat, reduceIte, Int.reduceLE, Int.reduceNeg]
        subst e2
        refine runk_exec (by simp only [exa, beq_self_eq_true, ByteArray.size, Nat.reduceAdd, Nat.reduceLeDiff, Nat.reduceEqDiff, Nat.reduceMul, Int.reduceToNat, reduceIte, Int.reduceLE, Int.reduceNeg, decide_true, decide_false, Bool.not_true, Bool.not_false, eq_self, bytes_beq, eqX_true rfl, hat, hat', Bool.and_true, Bool.true_and]; rfl) ?_
        (repeat (first | refine W.seq ?_ | refine W.block ?_ | refine W.skip ?_ | refine W.exit ?_))
        refine W.cond rfl (fun h => absurd h (by decide)) (fun _ => ?_)
        repeat (first | refine W.seq ?_ | refine W.block ?_ | refine W.skip ?_ | refine W.exit ?_ | refine W.region tab_ok 0 (by decide) (exec_run (by simp only [exa, beq_self_eq_true, ByteArray.size, Nat.reduceAdd, Nat.reduceLeDiff, Nat.reduceEqDiff, Nat.reduceMul, Int.reduceToNat, reduceIte, Int.reduceLE, Int.reduceNeg]; rfl)) ?_)
        refine ⟨k + 1, ⟨hlt, take_next htk hxk hyk⟩, by omega, ?_⟩
        refine le_mk ?sle ?mle ?swf ?mwf ?kept (by rfl)
        case kept => exact kept_not hkeep
        case swf => repeat (first | exact swf_top _ | refine swf_upd ?_ (by simp [A.ids, upd_app]))
        case mwf => repeat (first | exact mwf_nil _ | refine mwf_upd ?_ (by simp [A.ids, O.ids, upd_app]))
        case mle => repeat (first | exact mle_nil _ | exact mle_refl _ | refine mle_upd ?_ (by first | rfl | (simp only [upd_app, killM_app, Nat.reduceEqDiff, reduceIte, wrap_succ (show k + 1 < 9223372036854775808 by omega)]; done)))
        case sle => repeat (first | exact sle_top _ | exact sle_refl _ | refine sle_upd ?_ (by first | rfl | (simp only [upd_app, entry_zero, entry_succ, Nat.reduceEqDiff, reduceIte, wrap_succ (show k + 1 < 9223372036854775808 by omega)]; done)))
      · intro hge
        simp only [decide_eq_false_iff_not, Int.ofNat_lt] at hge
        obtain rfl : k = l.length := by omega
        have : l = l' := by rw [List.take_length, hle, List.take_length] at htk; exact htk
        rw [eqX_true this]
        repeat (first | refine W.seq ?_ | refine W.block ?_ | refine W.skip ?_ | refine W.exit ?_ | refine W.region tab_ok 0 (by decide) (exec_run (by simp only [exa, beq_self_eq_true, ByteArray.size, Nat.reduceAdd, Nat.reduceLeDiff, Nat.reduceEqDiff, Nat.reduceMul, Int.reduceToNat, reduceIte, Int.reduceLE, Int.reduceNeg]; rfl)) ?_)
        refine W.ret ⟨.inr rfl, by rfl, ?_⟩
        simp only [Tryd.f31, resA, resOne, toT, fin, exa, beq_self_eq_true, ByteArray.size, Nat.reduceAdd, Nat.reduceLeDiff, Nat.reduceEqDiff, Nat.reduceMul, Int.reduceToNat, reduceIte, Int.reduceLE, Int.reduceNeg]
  · have hle2 : ((l.length : Int) = (l'.length : Int)) = False := eq_false (by omega)
    rw [eqX_false (fun e => hle (by rw [e]))]
    repeat (first | refine W.seq ?_ | refine W.block ?_ | refine W.skip ?_ | refine W.exit ?_ | refine W.region tab_ok 0 (by decide) (exec_run (by simp only [exa, beq_self_eq_true, ByteArray.size, Nat.reduceAdd, Nat.reduceLeDiff, Nat.reduceEqDiff, Nat.reduceMul, Int.reduceToNat, reduceIte, Int.reduceLE, Int.reduceNeg, List.length_map, hle2]; rfl)) ?_)
    refine W.cond rfl (fun _ => ?_) (fun h => absurd h (by decide))
    repeat (first | refine W.seq ?_ | refine W.block ?_ | refine W.skip ?_ | refine W.exit ?_ | refine W.region tab_ok 0 (by decide) (exec_run (by simp only [exa, beq_self_eq_true, ByteArray.size, Nat.reduceAdd, Nat.reduceLeDiff, Nat.reduceEqDiff, Nat.reduceMul, Int.reduceToNat, reduceIte, Int.reduceLE, Int.reduceNeg]; rfl)) ?_)
    refine W.ret ⟨.inr rfl, by rfl, ?_⟩
    simp only [Tryd.f31, resA, resOne, toT, fin, exa, beq_self_eq_true, ByteArray.size, Nat.reduceAdd, Nat.reduceLeDiff, Nat.reduceEqDiff, Nat.reduceMul, Int.reduceToNat, reduceIte, Int.reduceLE, Int.reduceNeg]
theorem kids_sz (s : Stmt) : cntSs s.thn < cntS s ∧ cntSs s.els < cntS s ∧ cntEs s.exprs < cntS s := by
  obtain ⟨k, n, t, nm, es, th, el⟩ := s
  simp only [cntS]
  omega
set_option maxRecDepth 100000 in
set_option maxHeartbeats 16000000 in
theorem sameS_ok : ∀ (z : Nat) (l l' : List Stmt), cntSs l ≤ z → z ≤ 1048576 → ∀ m, COk Tryd.prog 30 [.c (.sl (cStmts l)), .c (.sl (cStmts l'))] m (.c (.bool (eqX l l'))) := by
  intro z
  induction z using Nat.strongRecOn with
  | ind z ih =>
  intro l l' hz hz2 m
  have hll := cntSs_len l
  rw [cStmts_map, cStmts_map]
  refine (ok_pure tab_ok Tryd.func30 (by kernel_rfl) rfl rfl (by rfl) (by rfl) (by rfl) (fun R hkeep => ?_) m)
  by_cases hle : l.length = l'.length
  · have hle2 : ((l.length : Int) = (l'.length : Int)) = True := eq_true (by omega)
    repeat (first | refine W.seq ?_ | refine W.block ?_ | refine W.skip ?_ | refine W.exit ?_ | refine W.region tab_ok 0 (by decide) (exec_run (by simp only [exa, beq_self_eq_true, ByteArray.size, Nat.reduceAdd, Nat.reduceLeDiff, Nat.reduceEqDiff, Nat.reduceMul, Int.reduceToNat, reduceIte, Int.reduceLE, Int.reduceNeg, List.length_map, hle2]; rfl)) ?_)
    refine W.cond rfl (fun h => absurd h (by decide)) (fun _ => ?_)
    repeat (first | refine W.seq ?_ | refine W.block ?_ | refine W.skip ?_ | refine W.exit ?_ | refine W.region tab_ok 0 (by decide) (exec_run (by simp only [exa, beq_self_eq_true, ByteArray.size, Nat.reduceAdd, Nat.reduceLeDiff, Nat.reduceEqDiff, Nat.reduceMul, Int.reduceToNat, reduceIte, Int.reduceLE, Int.reduceNeg]; rfl)) ?_)
    refine W.loop (ι := Nat) (fun k => ⟨upd (upd (upd (upd (fun _ => .top) 0 (.c (.sl (l.map cStmt)))) 1 (.c (.sl (l'.map cStmt)))) 12 (.c (.int .i64 l.length))) 13 (.c (.int .i64 k)), Mem.nil⟩) (fun k => k ≤ l.length ∧ l.take k = l'.take k) (fun k => l.length - k) 0 ?start ⟨Nat.zero_le _, rfl⟩ ?round
    case start =>
      refine le_mk ?sle ?mle ?swf ?mwf ?kept (by rfl)
      case kept => exact kept_not hkeep
      case swf => repeat (first | exact swf_top _ | refine swf_upd ?_ (by simp [A.ids, upd_app]))
      case mwf => repeat (first | exact mwf_nil _ | refine mwf_upd ?_ (by simp [A.ids, O.ids, upd_app]))
      case mle => repeat (first | exact mle_nil _ | exact mle_refl _ | refine mle_upd ?_ (by first | rfl | (simp only [upd_app, killM_app, Nat.reduceEqDiff, reduceIte, List.length_map]; done)))
      case sle => repeat (first | exact sle_top _ | exact sle_refl _ | refine sle_upd ?_ (by first | rfl | (simp only [upd_app, entry_zero, entry_succ, Nat.reduceEqDiff, reduceIte, List.length_map]; done)))
    case round =>
      rintro k ⟨hk, htk⟩
      repeat (first | refine W.seq ?_ | refine W.block ?_ | refine W.skip ?_ | refine W.exit ?_ | refine W.region tab_ok 0 (by decide) (exec_run (by simp only [exa, beq_self_eq_true, ByteArray.size, Nat.reduceAdd, Nat.reduceLeDiff, Nat.reduceEqDiff, Nat.reduceMul, Int.reduceToNat, reduceIte, Int.reduceLE, Int.reduceNeg]; rfl)) ?_)
      refine W.cond rfl ?_ ?_
      · intro hlt
        simp only [decide_eq_true_eq, Int.ofNat_lt] at hlt
        obtain ⟨x, hxk⟩ : ∃ x, l[k]? = some x := ⟨_, List.getElem?_eq_getElem hlt⟩
        obtain ⟨y, hyk⟩ : ∃ y, l'[k]? = some y := ⟨_, List.getElem?_eq_getElem (by omega)⟩
        have hat := at_map (f := cStmt) hxk
        have hat' := at_map (f := cStmt) hyk
        have hcm := cntS_mem (List.mem_of_getElem? hxk)
        obtain ⟨c1, c2, c3⟩ := kids_sz x
        obtain ⟨xk, xn, xt, xm, xe, xh, xl⟩ := x
        obtain ⟨yk, yn, yt, ym, ye, yh, yl⟩ := y
        simp only at c1 c2 c3
        have hre := sameE_ok (cntEs xe) xe ye (Nat.le_refl _) (by omega)
        have hrh := ih (cntSs xh) (by omega) xh yh (Nat.le_refl _) (by omega)
        have hrl := ih (cntSs xl) (by omega) xl yl (Nat.le_refl _) (by omega)
        simp only [cStmt] at hat hat'
        repeat (first | refine W.seq ?_ | refine W.block ?_ | refine W.skip ?_ | refine W.exit ?_ | refine W.region tab_ok 0 (by decide) (exec_run (by simp only [exa, beq_self_eq_true, ByteArray.size, Nat.reduceAdd, Nat.reduceLeDiff, Nat.reduceEqDiff, Nat.reduceMul, Int.reduceToNat, reduceIte, Int.reduceLE, Int.reduceNeg]; rfl)) ?_)
        (repeat (first | refine W.seq ?_ | refine W.block ?_ | refine W.skip ?_ | refine W.exit ?_))
        refine W.regionDK tab_ok 0 follows_mixed (by kernel_rfl) (by decide) ?_
        simp only [List.append_eq, List.cons_append, List.nil_append]
        by_cases e1 : xk = yk
        case neg =>
          have hne := eqX_false (ne_at hxk hyk (fun h => e1 (congrArg Stmt.kind h)))
          rw [hne]
          refine runk_exec (by simp only [exa, beq_self_eq_true, ByteArray.size, Nat.reduceAdd, Nat.reduceLeDiff, Nat.reduceEqDiff, Nat.reduceMul, Int.reduceToNat, reduceIte, Int.reduceLE, Int.reduceNeg, decide_true, decide_false, Bool.not_true, Bool.not_false, eq_self, bytes_beq, eqX_true rfl, hat, hat', eq_false e1]; rfl) ?_
          (repeat (first | refine W.seq ?_ | refine W.block ?_ | refine W.skip ?_ | refine W.exit ?_))
          refine W.cond rfl (fun _ => ?_) (fun h => absurd h (by decide))
          repeat (first | refine W.seq ?_ | refine W.block ?_ | refine W.skip ?_ | refine W.exit ?_ | refine W.region tab_ok 0 (by decide) (exec_run (by simp only [exa, beq_self_eq_true, ByteArray.size, Nat.reduceAdd, Nat.reduceLeDiff, Nat.reduceEqDiff, Nat.reduceMul, Int.reduceToNat, reduceIte, Int.reduceLE, Int.reduceNeg]; rfl)) ?_)
          refine W.ret ⟨.inr rfl, by rfl, ?_⟩
          simp only [Tryd.f30, resA, resOne, toT, fin, exa, beq_self_eq_true, ByteArray.size, Nat.reduceAdd, Nat.reduceLeDiff, Nat.reduceEqDiff, Nat.reduceMul, Int.reduceToNat, reduceIte, Int.reduceLE, Int.reduceNeg]
        subst e1
        by_cases e2 : xn = yn
        case neg =>
          have hne := eqX_false (ne_at hxk hyk (fun h => e2 (congrArg Stmt.num h)))
          rw [hne]
          refine runk_exec (by simp only [exa, beq_self_eq_true, ByteArray.size, Nat.reduceAdd, Nat.reduceLeDiff, Nat.reduceEqDiff, Nat.reduceMul, Int.reduceToNat, reduceIte, Int.reduceLE, Int.reduceNeg, decide_true, decide_false, Bool.not_true, Bool.not_false, eq_self, bytes_beq, eqX_true rfl, hat, hat', eq_false e2]; rfl) ?_
          (repeat (first | refine W.seq ?_ | refine W.block ?_ | refine W.skip ?_ | refine W.exit ?_))
          refine W.cond rfl (fun _ => ?_) (fun h => absurd h (by decide))
          repeat (first | refine W.seq ?_ | refine W.block ?_ | refine W.skip ?_ | refine W.exit ?_ | refine W.region tab_ok 0 (by decide) (exec_run (by simp only [exa, beq_self_eq_true, ByteArray.size, Nat.reduceAdd, Nat.reduceLeDiff, Nat.reduceEqDiff, Nat.reduceMul, Int.reduceToNat, reduceIte, Int.reduceLE, Int.reduceNeg]; rfl)) ?_)
          refine W.ret ⟨.inr rfl, by rfl, ?_⟩
          simp only [Tryd.f30, resA, resOne, toT, fin, exa, beq_self_eq_true, ByteArray.size, Nat.reduceAdd, Nat.reduceLeDiff, Nat.reduceEqDiff, Nat.reduceMul, Int.reduceToNat, reduceIte, Int.reduceLE, Int.reduceNeg]
        subst e2
        by_cases e3 : xt = yt
        case neg =>
          have hne := eqX_false (ne_at hxk hyk (fun h => e3 (congrArg Stmt.type h)))
          rw [hne]
          refine runk_exec (by simp only [exa, beq_self_eq_true, ByteArray.size, Nat.reduceAdd, Nat.reduceLeDiff, Nat.reduceEqDiff, Nat.reduceMul, Int.reduceToNat, reduceIte, Int.reduceLE, Int.reduceNeg, decide_true, decide_false, Bool.not_true, Bool.not_false, eq_self, bytes_beq, eqX_true rfl, hat, hat', eqX_false e3]; rfl) ?_
          (repeat (first | refine W.seq ?_ | refine W.block ?_ | refine W.skip ?_ | refine W.exit ?_))
          refine W.cond rfl (fun _ => ?_) (fun h => absurd h (by decide))
          repeat (first | refine W.seq ?_ | refine W.block ?_ | refine W.skip ?_ | refine W.exit ?_ | refine W.region tab_ok 0 (by decide) (exec_run (by simp only [exa, beq_self_eq_true, ByteArray.size, Nat.reduceAdd, Nat.reduceLeDiff, Nat.reduceEqDiff, Nat.reduceMul, Int.reduceToNat, reduceIte, Int.reduceLE, Int.reduceNeg]; rfl)) ?_)
          refine W.ret ⟨.inr rfl, by rfl, ?_⟩
          simp only [Tryd.f30, resA, resOne, toT, fin, exa, beq_self_eq_true, ByteArray.size, Nat.reduceAdd, Nat.reduceLeDiff, Nat.reduceEqDiff, Nat.reduceMul, Int.reduceToNat, reduceIte, Int.reduceLE, Int.reduceNeg]
        subst e3
        by_cases e4 : xm = ym
        case neg =>
          have hne := eqX_false (ne_at hxk hyk (fun h => e4 (congrArg Stmt.name h)))
          rw [hne]
          refine runk_exec (by simp only [exa, beq_self_eq_true, ByteArray.size, Nat.reduceAdd, Nat.reduceLeDiff, Nat.reduceEqDiff, Nat.reduceMul, Int.reduceToNat, reduceIte, Int.reduceLE, Int.reduceNeg, decide_true, decide_false, Bool.not_true, Bool.not_false, eq_self, bytes_beq, eqX_true rfl, hat, hat', eqX_false e4]; rfl) ?_
          (repeat (first | refine W.seq ?_ | refine W.block ?_ | refine W.skip ?_ | refine W.exit ?_))
          refine W.cond rfl (fun _ => ?_) (fun h => absurd h (by decide))
          repeat (first | refine W.seq ?_ | refine W.block ?_ | refine W.skip ?_ | refine W.exit ?_ | refine W.region tab_ok 0 (by decide) (exec_run (by simp only [exa, beq_self_eq_true, ByteArray.size, Nat.reduceAdd, Nat.reduceLeDiff, Nat.reduceEqDiff, Nat.reduceMul, Int.reduceToNat, reduceIte, Int.reduceLE, Int.reduceNeg]; rfl)) ?_)
          refine W.ret ⟨.inr rfl, by rfl, ?_⟩
          simp only [Tryd.f30, resA, resOne, toT, fin, exa, beq_self_eq_true, ByteArray.size, Nat.reduceAdd, Nat.reduceLeDiff, Nat.reduceEqDiff, Nat.reduceMul, Int.reduceToNat, reduceIte, Int.reduceLE, Int.reduceNeg]
        subst e4
        refine runk_split 61 (by simp only [exa, beq_self_eq_true, ByteArray.size, Nat.reduceAdd, Nat.reduceLeDiff, Nat.reduceEqDiff, Nat.reduceMul, Int.reduceToNat, reduceIte, Int.reduceLE, Int.reduceNeg, decide_true, decide_false, Bool.not_true, Bool.not_false, eq_self, bytes_beq, eqX_true rfl, hat, hat']; rfl) ?_
        refine runk_call rfl rfl rfl rfl rfl (by simp) (cvs_cons cv_refl (cvs_cons cv_refl cvs_nil)) (hre _) ?_
        by_cases e5 : xe = ye
        case neg =>
          rw [eqX_false e5]
          have hne := eqX_false (ne_at hxk hyk (fun h => e5 (congrArg Stmt.exprs h)))
          rw [hne]
          refine runk_exec (by simp only [exa, beq_self_eq_true, ByteArray.size, Nat.reduceAdd, Nat.reduceLeDiff, Nat.reduceEqDiff, Nat.reduceMul, Int.reduceToNat, reduceIte, Int.reduceLE, Int.reduceNeg, decide_true, decide_false, Bool.not_true, Bool.not_false, eq_self, bytes_beq, eqX_true rfl, hat, hat']; rfl) ?_
          (repeat (first | refine W.seq ?_ | refine W.block ?_ | refine W.skip ?_ | refine W.exit ?_))
          refine W.cond rfl (fun _ => ?_) (fun h => absurd h (by decide))
          repeat (first | refine W.seq ?_ | refine W.block ?_ | refine W.skip ?_ | refine W.exit ?_ | refine W.region tab_ok 0 (by decide) (exec_run (by simp only [exa, beq_self_eq_true, ByteArray.size, Nat.reduceAdd, Nat.reduceLeDiff, Nat.reduceEqDiff, Nat.reduceMul, Int.reduceToNat, reduceIte, Int.reduceLE, Int.reduceNeg]; rfl)) ?_)
          refine W.ret ⟨.inr rfl, by rfl, ?_⟩
          simp only [Tryd.f30, resA, resOne, toT, fin, exa, beq_self_eq_true, ByteArray.size, Nat.reduceAdd, Nat.reduceLeDiff, Nat.reduceEqDiff, Nat.reduceMul, Int.reduceToNat, reduceIte, Int.reduceLE, Int.reduceNeg]
        subst e5
        rw [eqX_true (rfl : xe = xe)]
        refine runk_split 13 (by simp only [exa, beq_self_eq_true, ByteArray.size, Nat.reduceAdd, Nat.reduceLeDiff, Nat.reduceEqDiff, Nat.reduceMul, Int.reduceToNat, reduceIte, Int.reduceLE, Int.reduceNeg, decide_true, decide_false, Bool.not_true, Bool.not_false, eq_self, bytes_beq, eqX_true rfl, hat, hat']; rfl) ?_
        refine runk_call rfl rfl rfl rfl rfl (by simp) (cvs_cons cv_refl (cvs_cons cv_refl cvs_nil)) (hrh _) ?_
        by_cases e6 : xh = yh
        case neg =>
          rw [eqX_false e6]
          have hne := eqX_false (ne_at hxk hyk (fun h => e6 (congrArg Stmt.thn h)))
          rw [hne]
          refine runk_exec (by simp only [exa, beq_self_eq_true, ByteArray.size, Nat.reduceAdd, Nat.reduceLeDiff, Nat.reduceEqDiff, Nat.reduceMul, Int.reduceToNat, reduceIte, Int.reduceLE, Int.reduceNeg, decide_true, decide_false, Bool.not_true, Bool.not_false, eq_self, bytes_beq, eqX_true rfl, hat, hat']; rfl) ?_
          (repeat (first | refine W.seq ?_ | refine W.block ?_ | refine W.skip ?_ | refine W.exit ?_))
          refine W.cond rfl (fun _ => ?_) (fun h => absurd h (by decide))
          repeat (first | refine W.seq ?_ | refine W.block ?_ | refine W.skip ?_ | refine W.exit ?_ | refine W.region tab_ok 0 (by decide) (exec_run (by simp only [exa, beq_self_eq_true, ByteArray.size, Nat.reduceAdd, Nat.reduceLeDiff, Nat.reduceEqDiff, Nat.reduceMul, Int.reduceToNat, reduceIte, Int.reduceLE, Int.reduceNeg]; rfl)) ?_)
          refine W.ret ⟨.inr rfl, by rfl, ?_⟩
          simp only [Tryd.f30, resA, resOne, toT, fin, exa, beq_self_eq_true, ByteArray.size, Nat.reduceAdd, Nat.reduceLeDiff, Nat.reduceEqDiff, Nat.reduceMul, Int.reduceToNat, reduceIte, Int.reduceLE, Int.reduceNeg]
        subst e6
        rw [eqX_true (rfl : xh = xh)]
        refine runk_split 13 (by simp only [exa, beq_self_eq_true, ByteArray.size, Nat.reduceAdd, Nat.reduceLeDiff, Nat.reduceEqDiff, Nat.reduceMul, Int.reduceToNat, reduceIte, Int.reduceLE, Int.reduceNeg, decide_true, decide_false, Bool.not_true, Bool.not_false, eq_self, bytes_beq, eqX_true rfl, hat, hat']; rfl) ?_
        refine runk_call rfl rfl rfl rfl rfl (by simp) (cvs_cons cv_refl (cvs_cons cv_refl cvs_nil)) (hrl _) ?_
        by_cases e7 : xl = yl
        case neg =>
          rw [eqX_false e7]
          have hne := eqX_false (ne_at hxk hyk (fun h => e7 (congrArg Stmt.els h)))
          rw [hne]
          refine runk_exec (by simp only [exa, beq_self_eq_true, ByteArray.size, Nat.reduceAdd, Nat.reduceLeDiff, Nat.reduceEqDiff, Nat.reduceMul, Int.reduceToNat, reduceIte, Int.reduceLE, Int.reduceNeg, decide_true, decide_false, Bool.not_true, Bool.not_false, eq_self, bytes_beq, eqX_true rfl, hat, hat']; rfl) ?_
          (repeat (first | refine W.seq ?_ | refine W.block ?_ | refine W.skip ?_ | refine W.exit ?_))
          refine W.cond rfl (fun _ => ?_) (fun h => absurd h (by decide))
          repeat (first | refine W.seq ?_ | refine W.block ?_ | refine W.skip ?_ | refine W.exit ?_ | refine W.region tab_ok 0 (by decide) (exec_run (by simp only [exa, beq_self_eq_true, ByteArray.size, Nat.reduceAdd, Nat.reduceLeDiff, Nat.reduceEqDiff, Nat.reduceMul, Int.reduceToNat, reduceIte, Int.reduceLE, Int.reduceNeg]; rfl)) ?_)
          refine W.ret ⟨.inr rfl, by rfl, ?_⟩
          simp only [Tryd.f30, resA, resOne, toT, fin, exa, beq_self_eq_true, ByteArray.size, Nat.reduceAdd, Nat.reduceLeDiff, Nat.reduceEqDiff, Nat.reduceMul, Int.reduceToNat, reduceIte, Int.reduceLE, Int.reduceNeg]
        subst e7
        rw [eqX_true (rfl : xl = xl)]
        refine runk_exec (by simp only [exa, beq_self_eq_true, ByteArray.size, Nat.reduceAdd, Nat.reduceLeDiff, Nat.reduceEqDiff, Nat.reduceMul, Int.reduceToNat, reduceIte, Int.reduceLE, Int.reduceNeg, decide_true, decide_false, Bool.not_true, Bool.not_false, eq_self, bytes_beq, eqX_true rfl, hat, hat']; rfl) ?_
        (repeat (first | refine W.seq ?_ | refine W.block ?_ | refine W.skip ?_ | refine W.exit ?_))
        refine W.cond rfl (fun h => absurd h (by decide)) (fun _ => ?_)
        repeat (first | refine W.seq ?_ | refine W.block ?_ | refine W.skip ?_ | refine W.exit ?_ | refine W.region tab_ok 0 (by decide) (exec_run (by simp only [exa, beq_self_eq_true, ByteArray.size, Nat.reduceAdd, Nat.reduceLeDiff, Nat.reduceEqDiff, Nat.reduceMul, Int.reduceToNat, reduceIte, Int.reduceLE, Int.reduceNeg]; rfl)) ?_)
        refine ⟨k + 1, ⟨hlt, take_next htk hxk hyk⟩, by omega, ?_⟩
        refine le_mk ?sle ?mle ?swf ?mwf ?kept (by rfl)
        case kept => exact kept_not hkeep
        case swf => repeat (first | exact swf_top _ | refine swf_upd ?_ (by simp [A.ids, upd_app]))
        case mwf => repeat (first | exact mwf_nil _ | refine mwf_upd ?_ (by simp [A.ids, O.ids, upd_app]))
        case mle => repeat (first | exact mle_nil _ | exact mle_refl _ | refine mle_upd ?_ (by first | rfl | (simp only [upd_app, killM_app, Nat.reduceEqDiff, reduceIte, wrap_succ (show k + 1 < 9223372036854775808 by omega)]; done)))
        case sle => repeat (first | exact sle_top _ | exact sle_refl _ | refine sle_upd ?_ (by first | rfl | (simp only [upd_app, entry_zero, entry_succ, Nat.reduceEqDiff, reduceIte, wrap_succ (show k + 1 < 9223372036854775808 by omega)]; done)))
      · intro hge
        simp only [decide_eq_false_iff_not, Int.ofNat_lt] at hge
        obtain rfl : k = l.length := by omega
        have : l = l' := by rw [List.take_length, hle, List.take_length] at htk; exact htk
        rw [eqX_true this]
        repeat (first | refine W.seq ?_ | refine W.block ?_ | refine W.skip ?_ | refine W.exit ?_ | refine W.region tab_ok 0 (by decide) (exec_run (by simp only [exa, beq_self_eq_true, ByteArray.size, Nat.reduceAdd, Nat.reduceLeDiff, Nat.reduceEqDiff, Nat.reduceMul, Int.reduceToNat, reduceIte, Int.reduceLE, Int.reduceNeg]; rfl)) ?_)
        refine W.ret ⟨.inr rfl, by rfl, ?_⟩
        simp only [Tryd.f30, resA, resOne, toT, fin, exa, beq_self_eq_true, ByteArray.size, Nat.reduceAdd, Nat.reduceLeDiff, Nat.reduceEqDiff, Nat.reduceMul, Int.reduceToNat, reduceIte, Int.reduceLE, Int.reduceNeg]
  · have hle2 : ((l.length : Int) = (l'.length : Int)) = False := eq_false (by omega)
    rw [eqX_false (fun e => hle (by rw [e]))]
    repeat (first | refine W.seq ?_ | refine W.block ?_ | refine W.skip ?_ | refine W.exit ?_ | refine W.region tab_ok 0 (by decide) (exec_run (by simp only [exa, beq_self_eq_true, ByteArray.size, Nat.reduceAdd, Nat.reduceLeDiff, Nat.reduceEqDiff, Nat.reduceMul, Int.reduceToNat, reduceIte, Int.reduceLE, Int.reduceNeg, List.length_map, hle2]; rfl)) ?_)
    refine W.cond rfl (fun _ => ?_) (fun h => absurd h (by decide))
    repeat (first | refine W.seq ?_ | refine W.block ?_ | refine W.skip ?_ | refine W.exit ?_ | refine W.region tab_ok 0 (by decide) (exec_run (by simp only [exa, beq_self_eq_true, ByteArray.size, Nat.reduceAdd, Nat.reduceLeDiff, Nat.reduceEqDiff, Nat.reduceMul, Int.reduceToNat, reduceIte, Int.reduceLE, Int.reduceNeg]; rfl)) ?_)
    refine W.ret ⟨.inr rfl, by rfl, ?_⟩
    simp only [Tryd.f30, resA, resOne, toT, fin, exa, beq_self_eq_true, ByteArray.size, Nat.reduceAdd, Nat.reduceLeDiff, Nat.reduceEqDiff, Nat.reduceMul, Int.reduceToNat, reduceIte, Int.reduceLE, Int.reduceNeg]
end V
end Go.Proofs.YtbmbmcdaabhgnaaDoor
end
section
set_option linter.unusedVariables false
set_option linter.unusedSimpArgs false
namespace Go.Proofs.YtbmbmcdaabhgnaaDoor
namespace V
open Go.RowKit Go.Lib
def cBytes (l : List UInt8) : List (List C) := l.map fun b => [C.int .u8 b.toNat]
theorem strRCs {w : World} {I : Nat → Nat → Prop} (s : ByteArray) : RCs w I (strCells s) (flat (cBytes s.data.toList)) := by
  unfold strCells cBytes flat
  generalize s.data.toList = l
  induction l with
  | nil => trivial
  | cons x l ih =>
    simp only [List.map_cons, List.flatten_cons, List.singleton_append]
    exact ⟨.int (by have := x.toNat_lt; simp [Lit.wf, IntKind.min, IntKind.max, IntKind.bits, IntKind.signed]; omega), ih⟩
theorem run_append_str_two {P : Go.Program} (w : World) (t u ty e : TypeId) (i : TypeInfo) (ht : P.underlying t = some (.slice e)) (hu : P.underlying u = some .string) (hi : P.info? e = some i) (hz : i.zero = some (.int .u8 0)) (hsize : i.size = 1) (hby : i.bytes = 1)
    (v : Value) (n : Nat) (xs : List Value) (hown : w.ownsRow 0 e 1 v n xs) (s : ByteArray) (h63 : n + s.size ≤ maxLen) (hbytes : n + s.size ≤ 140737488355328) :
    ∃ v' w', (Builtin.append_ #[t, u] ty #[v, .string s]).run P w = .ok v' w' ∧ w'.ownsRow 0 e 1 v' (n + s.size) (xs ++ strCells s) ∧ w'.os = w.os ∧ w'.tape = w.tape ∧ w'.output = w.output ∧
      ((∃ g, v.ownBlock = some g ∧ v'.ownBlock = some g ∧ w'.heap.size = w.heap.size ∧ ∀ k, k ≠ g → w'.heap[k]? = w.heap[k]?) ∨ (Below w.heap.size w w' ∧ ∀ k, v'.ownBlock = some k → w.heap.size ≤ k) ∨ (v' = v ∧ w' = w)) := by
  have hsmall : n + s.size ≤ 9223372036854775807 := by simp only [maxLen] at h63; omega
  have hxl : xs.length = n := by simpa using hown.1
  have hlen : (xs ++ strCells s).length = (n + s.size) * 1 := by rw [List.length_append, hxl, strCells_length, Nat.mul_one]
  have grown : ∀ (old : Nat), old < n + s.size →
      (w.drew.alloc (.cells (xs.toArray ++ (strCells s).toArray ++ Builtin.zeroCells (Value.int .u8 0).cells (grownCap w (n + s.size) old e - (n + s.size))) e)).ownsRow 0 e 1
        (.slice (some ⟨w.heap.size, 0, none⟩) (n + s.size) (grownCap w (n + s.size) old e)) (n + s.size) (xs ++ strCells s) ∧
      Below w.heap.size w (w.drew.alloc (.cells (xs.toArray ++ (strCells s).toArray ++ Builtin.zeroCells (Value.int .u8 0).cells (grownCap w (n + s.size) old e - (n + s.size))) e)) := by
    intro old ho
    have hge := grownCap_ge w (n + s.size) old e
    have hcm : grownCap w (n + s.size) old e ≤ maxLen := grownCap_le_maxLen w (n + s.size) old e h63
    refine ⟨⟨hlen, .inr ⟨w.heap.size, _, _, rfl, Nat.zero_le _, heap_alloc_new w.drew _, hge, hcm, ?_, ?_⟩⟩, (Below.refl w.heap.size w).drew.alloc (Nat.le_refl _) _⟩
    · have hz1 : (Value.int IntKind.u8 0).cells.size = 1 := rfl
      simp only [Array.size_append, List.size_toArray, size_zeroCells, hz1, hxl, strCells_length]
      omega
    · simp only [Array.toList_append, List.append_assoc]
      rw [← List.append_assoc, ← hlen]
      exact List.take_left
  rcases hown.2 with ⟨rfl, rfl⟩ | ⟨g, cap, cur, rfl, hbg, hg, hnc, hcm, hcs, htake⟩
  · have hx : xs = [] := List.eq_nil_of_length_eq_zero hxl
    subst hx
    by_cases hm : s.size = 0
    · have hn : strCells s = [] := List.eq_nil_of_length_eq_zero (by rw [strCells_length]; exact hm)
      refine ⟨.slice none 0 0, w, ?_, by rw [hm, hn]; exact World.ownsRow_nil w 0 e 1, rfl, rfl, rfl, .inr (.inr ⟨rfl, rfl⟩)⟩
      have hf := run_firstCells_string (P := P) w 1 s
      rw [hm] at hf
      simp [Builtin.append_, run_underlying ht, run_underlying hu, sizeOf, typeInfo, hi, hsize, Builtin.lenOf, hm, hf]
    · have hr := run_append_nil_string (P := P) w t u ty e i (.int .u8 0) ht hu hi hz s (by omega) (by omega) (by rw [hby]; omega)
      have hgr := grown 0 (by omega)
      simp only [Nat.zero_add, List.nil_append, Array.empty_append] at hgr ⊢
      have e1 : (s.data.map fun b => Value.int .u8 b.toNat) = (strCells s).toArray := by
        apply Array.ext'
        simp [strCells]
      rw [e1] at hr
      exact ⟨_, _, hr, hgr.1, rfl, rfl, rfl, .inr (.inl ⟨hgr.2, fun k hk => by simp [Value.ownBlock] at hk; omega⟩)⟩
  · by_cases hroom : n + s.size ≤ cap
    · have hcs' : cur.size = cap := by simpa using hcs
      have hr := run_append_room_string (P := P) w t u ty e i ht hu hi hsize g n cap cur hg s hroom (by omega)
      refine ⟨_, _, hr, ⟨hlen, .inr ⟨g, cap, _, rfl, hbg, setRow_heap w g cur _ e _ hg, hroom, hcm, ?_, ?_⟩⟩, rfl, rfl, rfl, .inl ⟨g, rfl, rfl, by simp, fun k hk => setRow_other w g k _ hk⟩⟩
      · simp only [List.size_toArray, List.length_append, List.length_take, List.length_drop, Array.length_toList, strCells_length]
        omega
      · have ht' : cur.toList.take n = xs := by simpa using htake
        rw [ht', ← hlen]
        exact List.take_left
    · have holds : ∀ j u, xs[j]? = some u → w.cell? ((⟨g, 0, none⟩ : Addr).add j) = some u := hown.cells (g := g) rfl
      have hr := run_append_grow_string (P := P) w t u ty e i (.int .u8 0) ht hu hi hz ⟨g, 0, none⟩ n cap xs (by rw [hsize]; simpa using hxl) holds s (by omega) (by omega) (by rw [hby]; exact growslice_fits (by omega) (by omega))
      have hgr := grown cap (by omega)
      exact ⟨_, _, hr, hgr.1, rfl, rfl, rfl, .inr (.inl ⟨hgr.2, fun k hk => by simp [Value.ownBlock] at hk; omega⟩)⟩
structure HAppendS (T : Tab) (ops : Array Oper) (o : Oper) (st : St) (c : Call) (x y : Operand) (t u d id e : Nat) (xs : List (List C)) (s : ByteArray) : Prop where
  want : wantA ops o st.s = some true
  op : o.op = .call c
  callee : c.callee = .builtin .append
  args : c.args = #[x, y]
  tys : c.argTypes = #[t, u]
  dst : o.dst = some d
  at_ : ev st.s x = .own id
  arr : st.m id = some (.arr e 1 xs)
  val : ev st.s y = .c (.str s)
  elem : T.elem t = some (e, 1)
  str : T.str u = true
  bytes : T.bytes e = some 1
  one : T.one e = some (.int .u8 0)
  small : xs.length + s.size ≤ 140737488355328
section
variable {P : Go.Program} {T : Tab} (hT : T.Ok P) {kp : Nat → Prop} {ops : Array Oper}
include hT
theorem eff_appendS {o : Oper} {st : St} {c : Call} {x y : Operand} {t u d id e : Nat} {xs : List (List C)} {s : ByteArray} (hkp : ¬ kp id) (h : HAppendS T ops o st c x y t u d id e xs s) :
    Eff P T kp ops o st ⟨upd (killS id st.s) d (.own id), upd (killM id st.m) id (some (.arr e 1 (xs ++ cBytes s.data.toList)))⟩ := by
  refine ⟨by rw [h.op]; simp [kind, h.callee], fun hw => ?_, fun R n0 ds a w K Q hR hr hd hK => ?_⟩
  · refine killW hw h.arr (fun i hi => ?_) d _ (fun i hi => ?_)
    · simp [O.ids] at hi
    · simp [A.ids] at hi; subst hi; simp [h.arr]
  · obtain ⟨B, I, hm, hx0, hkp0, hs⟩ := hr.ex
    rw [want_snd hs h.want, if_pos rfl]
    obtain ⟨hu, hn0, i, hi, hin⟩ := hT.elem _ _ _ h.elem
    obtain ⟨i2, hi2, hib⟩ := hT.bytes _ _ h.bytes
    obtain ⟨i3, hi3, hz0, -⟩ := hT.one _ _ h.one
    have e1 : i2 = i := Option.some.inj (hi2.symm.trans hi)
    have e2 : i3 = i := Option.some.inj (hi3.symm.trans hi)
    subst e1 e2
    have hx := ev_rv hs x
    rw [h.at_] at hx
    obtain ⟨hx, -⟩ := hx
    have hy := ev_rv hs y
    rw [h.val] at hy
    have hy : RC w I (a.eval y) (.str s) := hy
    obtain ⟨hyv, -⟩ := hy.toStr
    have hml : (140737488355328 : Nat) ≤ maxLen := by unfold maxLen; decide
    have fin : ∃ v' w' I', (Builtin.append_ #[t, u] o.type #[B id, .string s]).run P w = .ok v' w' ∧ (∃ aa nn cc, v' = .slice aa nn cc) ∧ MR R.w0 R.I0 (upd B id v') I' (upd (killM id st.m) id (some (.arr e 1 (xs ++ cBytes s.data.toList)))) w' ∧ Ext w w' I I' := by
      obtain ⟨vs, hv, hvs, hlx, hiff⟩ := hm.objs id _ h.arr
      obtain ⟨v', w', r1, r2, r3, r4, r5, r6⟩ := run_append_str_two (P := P) w t u o.type e i3 hu (hT.str _ h.str) hi3 hz0 hin hib (B id) xs.length vs hv s (Nat.le_trans h.small hml) h.small
      have hbl : (cBytes s.data.toList).length = s.size := by unfold cBytes; rw [List.length_map, Array.length_toList]; rfl
      rw [← hbl] at r2
      obtain ⟨I', hm', hE⟩ := hm.append h.arr hv hvs hlx hiff r2 (strRCs s) (fun z hz => by obtain ⟨b, -, rfl⟩ := List.mem_map.1 hz; rfl) r3 r4 r5 r6
      refine ⟨v', w', I', r1, ?_, hm', hE⟩
      rcases r2.2 with ⟨q, -⟩ | ⟨g, cap, cur, q, -⟩
      · exact ⟨_, _, _, q⟩
      · exact ⟨_, _, _, q⟩
    obtain ⟨v', w', I', r1, hsh, hm', hE⟩ := fin
    have hrun : (execOp a.eval o).run P w = .ok (.value v') w' := by
      obtain ⟨cal, args, tys⟩ := c
      have h7 := h.callee
      have h8 := h.args
      have h9 := h.tys
      simp only at h7 h8 h9
      subst h7 h8 h9
      simp only [execOp, h.op, resolve, invoke, builtin, Sem.run_bind, Sem.run_pure, Result.andThen_ok, List.map_toArray, List.map_cons, List.map_nil, hx, hyv, r1]
    unfold Oper.wp Oper.upon
    rw [hrun]
    have hdlt : ∀ q, o.dst = some q → q < a.tmps.size := fun q hq => by rw [hr.size]; exact hd q hq
    have hkill : ∀ t', RV (upd B id v') w' I' ((st.s t').kill id) (a.tmps.getD t' undef) := fun t' => by
      rcases (A.kill_ids (id := id) (a := st.s t')).2 with q | ⟨q, hnn⟩
      · rw [q]; trivial
      · rw [q]
        exact (hs t').mono hE fun j hj => upd_ne _ _ (fun e => hnn (e ▸ hj))
    have hput := putS_rv (dst := o.dst) (r := A.own id) (v := v') hkill ⟨(upd_same B id v').symm, hsh⟩ hdlt
    rw [h.dst] at hput
    have hwf : WF ⟨upd (killS id st.s) d (.own id), upd (killM id st.m) id (some (.arr e 1 (xs ++ cBytes s.data.toList)))⟩ := killW hr.wf h.arr (fun i hi => by simp [O.ids] at hi) d _ (fun i hi => by simp [A.ids] at hi; subst hi; simp [h.arr])
    refine hK _ _ ⟨⟨_, I', hm', hx0.trans hE, fun j hj => ?_, by rw [h.dst]; exact hput⟩, hwf.ids, by rw [(put_dst_size _ _ _).1]; exact hr.size, hr.nn, by
      rw [(put_dst_size _ _ _).2]
      have hdd : DID ≠ d := fun q => absurd (hd d h.dst) (Nat.not_lt.2 (q ▸ hr.nn))
      show a.defers = dfs (upd (killS id st.s) d (.own id) DID) ++ ds
      rw [upd_ne _ _ hdd, killS_app, dfs_kill]; exact hr.defs, fun j hj => ?_⟩
    · rw [upd_ne _ _ (fun e => by subst e; rw [hR] at hj; exact hkp hj)]; exact hkp0 j hj
    · have := hr.kept j hj
      show (upd (killM id st.m) id _ j).isSome = true
      unfold upd; split
      · rfl
      · simpa [killM_app] using this
omit hT in
theorem runk_appendS (hT : T.Ok P) {base : Nat} {o : Oper} {l : List Oper} {st : St} {k : St → Prop} {c : Call} {x y : Operand} {t u d : Nat} (id : Nat) {e : Nat} {xs : List (List C)} {s : ByteArray} (h : wantA ops o st.s = some true) (hop : o.op = .call c) (hc : c.callee = .builtin .append) (ha : c.args = #[x, y]) (ht : c.argTypes = #[t, u]) (hd : o.dst = some d)
    (hx : ev st.s x = .own id) (hm : st.m id = some (.arr e 1 xs)) (hy : ev st.s y = .c (.str s)) (h1 : T.elem t = some (e, 1)) (h2 : T.str u = true) (h3 : T.bytes e = some 1) (h4 : T.one e = some (.int .u8 0)) (hkp : ¬ kp id) (hb : xs.length + s.size ≤ 140737488355328)
    (ht2 : RunK P T kp base ops l ⟨upd (killS id st.s) d (.own id), upd (killM id st.m) id (some (.arr e 1 (xs ++ cBytes s.data.toList)))⟩ k) : RunK P T kp base ops (o :: l) st k :=
  runk_step (.eff (eff_appendS hT hkp ⟨h, hop, hc, ha, ht, hd, hx, hm, hy, h1, h2, h3, h4, hb⟩)) ht2
end
end V
end Go.Proofs.YtbmbmcdaabhgnaaDoor
end
section
set_option linter.unusedVariables false
set_option linter.unusedSimpArgs false
namespace Go.Proofs.YtbmbmcdaabhgnaaDoor
open Go.RowKit
set_option maxRecDepth 100000 in
theorem copyCheck_used (b : Nat) (w : World) (h0 : w.cell? ⟨b, 0, none⟩ = some (.pointer (some ⟨b, 0, none⟩))) :
    Calls Tryd.prog 74 #[.pointer (some ⟨b, 0, none⟩)] w fun e w' => e = .returned (.tuple #[]) ∧ w' = w := by
  have hsz : ((Tryd.prog).info? 45).map (·.size) = some 2 := by kernel_rfl
  obtain ⟨j, hj, hjs⟩ := Option.map_eq_some_iff.1 hsz
  go_enter Tryd.func74, Tryd.ntmps74
  go_wp2
  rw [Lib.run_neq_ptr_same w _ Tryd.underlying42 hj]
  go_wp2
  go_end0
  exact ⟨rfl, rfl⟩
set_option maxRecDepth 100000 in
theorem copyCheck_fresh (b : Nat) (w : World) (h0 : w.cell? ⟨b, 0, none⟩ = some (.pointer none)) (hsh : w.shape? b = some (47, 3)) (hfz : w.frozen? ⟨b, 0, none⟩ = false) :
    Calls Tryd.prog 74 #[.pointer (some ⟨b, 0, none⟩)] w fun e w' => e = .returned (.tuple #[]) ∧ w' = w.setCell ⟨b, 0, none⟩ (.pointer (some ⟨b, 0, none⟩)) := by
  have hsz : ((Tryd.prog).info? 45).map (·.size) = some 2 := by kernel_rfl
  obtain ⟨j, hj, hjs⟩ := Option.map_eq_some_iff.1 hsz
  have hlies : liesAt Tryd.prog (Tryd.prog).depth 47 (3 / (Tryd.prog).cellsOf 47) 0 45 1 = true := by kernel_rfl
  go_enter Tryd.func74, Tryd.ntmps74
  go_wp2
  rw [Lib.run_to_unsafe w ⟨b, 0, none⟩ Tryd.underlying42 Tryd.underlying114 hj (by rw [hjs]; decide) hsh (Nat.zero_lt_succ 2)]
  simp only [Result.andThen]
  rw [Oper.upon_value]
  go_wp2
  rw [run_callFunc_extern Tryd.func89 (by kernel_rfl) (by kernel_rfl) (by kernel_rfl) (e := Extern.AbiNoEscape.same) (by kernel_rfl)]
  rw [Lib.run_noEscape]
  simp only [Result.andThen]
  rw [Oper.upon_value]
  go_wp2
  rw [Lib.run_from_unsafe w ⟨b, 0, none⟩ Tryd.underlying114 Tryd.underlying42 hj hsh hlies]
  simp only [Result.andThen]
  rw [Oper.upon_value]
  go_wp2
  go_end0
  exact ⟨rfl, rfl⟩
end Go.Proofs.YtbmbmcdaabhgnaaDoor
end
section
set_option linter.unusedVariables false
set_option linter.unusedSimpArgs false
namespace Go.Proofs.YtbmbmcdaabhgnaaDoor
namespace V
open Go.RowKit
section
variable {w0 w : World} {I0 I : Nat → Nat → Prop} {B : Nat → Value} {m : Mem}
theorem MR.moreI (h : MR w0 I0 B I m w) {N : Nat → Nat → Prop} (hN : ∀ b o, N b o → w0.heap.size ≤ b ∧ b < w.heap.size ∧ ∀ j z, m j = some z → ¬ foot B j z b) : MR w0 I0 B (fun b o => I b o ∨ N b o) m w :=
  ⟨h.below, h.glob, fun b o k => .inl (h.base b o k), fun b o k => k.elim (h.old b o) fun k => .inr (hN b o k).1, fun b o k => k.elim (h.there b o) fun k => (hN b o k).2.1,
    fun j z hz => RO.mono ⟨fun _ _ k => .inl k, fun _ _ _ => rfl⟩ rfl (fun _ _ => rfl) (fun _ _ => rfl) (fun k hk p hp => hp.elim id fun hp => absurd hk ((hN k p hp).2.2 j z hz)) (h.objs j z hz), h.low, h.apart, h.live⟩
theorem MR.freeze (h : MR w0 I0 B I m w) {id : Nat} {ty : TypeId} {e : Nat} {xs : List (List C)} (hid : m id = some (.mrow ty e xs)) :
    ∃ I', MR w0 I0 (upd B id (.slice none 0 0)) I' (upd (killM id m) id (some (.arr ty e []))) w ∧ Ext w w I I' ∧ RC w I' (B id) (.sl xs) := by
  have hob := h.objs id _ hid
  obtain ⟨vs, hrow, hvs, hlx, hnI⟩ := hob
  have hnew : RO (upd B id (.slice none 0 0)) w I id (.arr ty e []) := ⟨[], ⟨by simp, .inl ⟨upd_same .., rfl⟩⟩, trivial, (fun x hx => by cases hx), (fun b hb o => by rw [upd_same] at hb; cases hb)⟩
  have h1 := h.reval (v' := .slice none 0 0) (o' := .arr ty e []) (w' := w) (I' := I) hid rfl rfl rfl (Nat.le_refl _) (fun _ _ _ => rfl) (fun k hk => by
      have hk : (upd B id (.slice none 0 0) id).ownBlock = some k := hk
      rw [upd_same] at hk; cases hk) (Ext.refl _ _) (fun b p k => .inl k)
    hnew (fun i hi => by simp [O.ids] at hi)
  have h2 := h1.moreI (N := fun b o => (B id).ownBlock = some b) (fun b o hb => by
    have hf : foot B id (.mrow ty e xs) b := hb
    refine ⟨(h.low id _ hid b hf).1, (h.low id _ hid b hf).2, fun j z hz hk => ?_⟩
    unfold upd at hz
    split at hz
    · rename_i ej
      cases hz
      subst ej
      have hk : (upd B j (.slice none 0 0) j).ownBlock = some b := hk
      rw [upd_same] at hk; cases hk
    · rename_i ej
      rw [killM_app] at hz
      cases hmj : m j with
      | none => rw [hmj] at hz; cases hz
      | some z0 =>
        rw [hmj] at hz
        cases hz
        exact h.apart j z0 id _ hmj hid ej b ((foot_kill (upd_ne _ _ ej)).1 hk) hf)
  refine ⟨_, h2, ⟨fun _ _ k => .inl k, fun _ _ _ => rfl⟩, ?_⟩
  have hvs' : RCs w (fun b o => I b o ∨ (B id).ownBlock = some b) vs (flat xs) := hvs.mono ⟨fun _ _ k => .inl k, fun _ _ _ => rfl⟩
  obtain ⟨hl, ho⟩ := hrow
  rcases ho with ⟨ev, hn⟩ | ⟨g, off, cap, cur, ev, hcell, q1, q2, q3, q4⟩
  · obtain rfl : xs = [] := List.length_eq_zero_iff.1 hn
    rw [ev]
    exact RC.sl (e := 0) (fun _ _ => undef) rfl (Nat.le_refl _) (Nat.zero_le _) (fun x hx => by cases hx) (fun i x hx => by simp at hx) (fun i j x c hx _ => by simp at hx)
  · have hat : ∀ i j x, xs[i]? = some x → j < e → i * e + j < xs.length * e := fun i j x hx hj => by
      have hi := (List.getElem?_eq_some_iff.1 hx).1
      have : (i + 1) * e ≤ xs.length * e := Nat.mul_le_mul_right _ hi
      rw [Nat.add_mul] at this
      omega
    rw [ev] at hvs' ⊢
    refine RC.sl (e := e) (fun i j => vs.getD (i * e + j) undef) rfl q1 q2 hlx (fun i x hx => ⟨g, off, rfl, fun j hj => ⟨.inr rfl, ?_⟩⟩) (fun i j x c hx hc => ?_)
    · have hlt := hat i j x hx hj
      have hcur : cur[off + (i * e + j)]? = vs[i * e + j]? := by
        rw [← q4, List.getElem?_take, if_pos hlt, List.getElem?_drop, Array.getElem?_toList]
      rw [Nat.add_assoc]
      have hv : vs[i * e + j]? = some (vs.getD (i * e + j) undef) := by
        rw [List.getD_eq_getElem?_getD, List.getElem?_eq_getElem (by omega)]; rfl
      rw [← hv, ← hcur]
      simp [World.cell?, hcell]
    · have hj : j < e := by rw [← hlx x (List.mem_of_getElem? hx)]; exact (List.getElem?_eq_some_iff.1 hc).1
      have hfl := flat_at hlx i j x hx hj
      rw [hc] at hfl
      obtain ⟨u, hu, hr⟩ := hvs'.at _ _ hfl
      rw [List.getD_eq_getElem?_getD, hu]
      exact hr
end
section
variable {P : Go.Program}
theorem W.freeze {R : Ref} {n : Nat} {ds : List Deferred} {st : St} {c : Code} {K : Exit → St → Prop} (t id : Nat) {ty : TypeId} {e : Nat} {xs : List (List C)} (ht : st.s t = .own id) (hid : st.m id = some (.mrow ty e xs)) (hkp : ¬ R.keep id)
    (h : W P R n ds ⟨upd (killS id st.s) t (.c (.sl xs)), upd (killM id st.m) id (some (.arr ty e []))⟩ c K) : W P R n ds st c K := by
  intro a w hr
  refine h a w ?_
  obtain ⟨⟨B, I, hm, hx0, hkp0, hs⟩, h2, h3, hnn, h4, h5⟩ := hr
  obtain ⟨I', hm', hE, hrc⟩ := hm.freeze hid
  have hBne : ∀ j, j ≠ id → upd B id (.slice none 0 0) j = B j := fun j hj => upd_ne _ _ hj
  have liv : ∀ i, (st.m i).isSome = true → (upd (killM id st.m) id (some (.arr ty e [])) i).isSome = true := fun i hi => by
    unfold upd; split
    · rfl
    · rw [killM_app]; simpa using hi
  have hown : RV B w I (.own id) (a.tmps.getD t undef) := ht ▸ hs t
  have hval : a.tmps.getD t undef = B id := hown.1
  refine ⟨⟨_, I', hm', hx0.trans hE, fun j hj => (hBne j (fun e => hkp (e ▸ hj))).trans (hkp0 j hj), fun u => ?_⟩, fun u j hj => ?_, h3, hnn, ?_, fun i hi => liv i (h5 i hi)⟩
  · show RV _ w I' (upd (killS id st.s) t (.c (.sl xs)) u) _
    by_cases hu : u = t
    · subst hu
      rw [upd_same, hval]
      exact hrc
    · rw [upd_ne _ _ hu, killS_app]
      rcases (A.kill_ids (id := id) (a := st.s u)).2 with k | ⟨k, hn⟩
      · rw [k]; trivial
      · rw [k]
        exact (hs u).mono hE fun i hi => hBne i (fun e => hn (e ▸ hi))
  · have hj : j ∈ (upd (killS id st.s) t (.c (.sl xs)) u).ids := hj
    by_cases hu : u = t
    · subst hu; rw [upd_same] at hj; simp [A.ids] at hj
    · rw [upd_ne _ _ hu, killS_app] at hj
      exact liv j (h2 u j ((A.kill_ids (id := id) (a := st.s u)).1 j hj).1)
  · show _ = dfs (upd (killS id st.s) t (.c (.sl xs)) DID) ++ ds
    by_cases e : DID = t
    · rw [← e, upd_same]
      rw [← e] at ht
      rw [ht] at h4
      exact h4
    · rw [upd_ne _ _ e, killS_app, dfs_kill]
      exact h4
end
end V
end Go.Proofs.YtbmbmcdaabhgnaaDoor
end
section
set_option linter.unusedVariables false
set_option linter.unusedSimpArgs false
namespace Go.Proofs.YtbmbmcdaabhgnaaDoor
namespace V
open Go.RowKit
theorem mle_refl' {m m' : Mem} (h : m = m') : MLe m m' := h ▸ mle_refl m
theorem upd_upd {α : Type} (f : Nat → α) (t : Nat) (x y : α) : upd (upd f t x) t y = upd f t y := by
  funext u; unfold upd; split <;> rfl
theorem upd_id {α : Type} (f : Nat → α) {t : Nat} {x : α} (h : f t = x) : upd f t x = f := by
  funext u; unfold upd; split
  · rename_i e; subst e; exact h.symm
  · rfl
theorem mwf_some {M : Mem} {j : Nat} {o : O} (hw : WFm M) (ho : ∀ i ∈ o.ids, (upd M j (some o) i).isSome = true) : WFm (upd M j (some o)) := fun id z hz i hi => by
  unfold upd at hz
  split at hz
  · cases hz; exact ho i hi
  · have := hw id z hz i hi
    unfold upd; split
    · rfl
    · exact this
theorem live_upd {M : Mem} {j : Nat} {o : O} : ∀ i, (M i).isSome = true → (upd M j (some o) i).isSome = true := fun i hi => by
  unfold upd; split
  · rfl
  · exact hi
theorem ren1_id : A1.ren (fun j => j) = id := funext fun a => by cases a <;> rfl
theorem ren_id : A.ren (fun j => j) = id := funext fun a => by cases a <;> simp [A.ren, ren1_id]
theorem renO_id (o : O) : O.ren (fun j => j) o = o := by cases o <;> simp [O.ren, ren1_id, ren_id]
theorem ok_eff {P : Go.Program} {T : Tab} (hT : T.Ok P) {f : FuncId} {fn : Func} {c : Code} {l : List ResultVar} {args : List A} {M : Mem} (D : List Nat) {r : A} {M' : Mem} (hf : P.funcs[f]? = some fn) (hn : (fn.name == "runtime.NumGoroutine") = false) (hb : fn.body = some c) (hl : fn.results.toList = l)
    (hle : decide (args.length ≤ fn.ntmps ∧ fn.ntmps ≤ DID) = true) (hdf : args.all (fun a => !(match a with | .defs _ => true | _ => false)) = true) (hids : ∀ a ∈ args, ∀ j ∈ a.ids, (M j).isSome = true) (hr : ∀ j ∈ r.ids, (M' j).isSome = true) (hsub : ∀ j, (M j).isSome = true → (M' j).isSome = true) (hwm : WFm M → WFm M')
    (hW : WFm M → ∀ R : Ref, R.keep = (fun j => (M j).isSome = true ∧ j ∉ D) → W P R fn.ntmps [] ⟨entry args, M⟩ c (fun e st => (e = .normal ∨ e = .ret) ∧ dfs (st.s DID) = [] ∧ resE T st l = some r ∧ MLe st.m M')) : CallE P f args M D r M' := by
  refine ⟨enters_of hf hn hb, hr, hsub, hwm, ?_⟩
  intro w0 I0 B I w vals hm hv
  have hWF : WFm M := hm.live
  refine (call_eff hT (D := D) hf hb hl (of_decide_eq_true hle).1 (of_decide_eq_true hle).2 hids (fun a ha l e => by have := List.all_eq_true.1 hdf a ha; subst e; simp at this) (enters_of hf hn hb) hr hsub hwm (fun R hR => ?_)).2.2.2.2 w0 I0 B I w vals hm hv
  refine W.mono (hW hWF R hR) fun e st ⟨h1, h2, h3, h4⟩ => ⟨h1, h2, fun j => j, r, h3, ?_⟩
  have hwf' : WFm M' := hwm hWF
  refine ⟨fun t => .inr ?_, fun j o ho => ?_, fun i j _ _ e => e, ⟨fun t j hj => ?_, hwf'⟩, fun j hj => ?_, ?_⟩
  · show (upd (fun _ => A.top) 0 r t).ren (fun j => j) = _
    rw [ren_id]; rfl
  · rw [renO_id]
    rcases h4 j with q | q
    · rw [show (⟨upd (fun _ => A.top) 0 r, M'⟩ : St).m j = M' j from rfl, q] at ho; cases ho
    · exact q.symm.trans ho
  · show (M' j).isSome = true
    have hj : j ∈ (upd (fun _ => A.top) 0 r t).ids := hj
    unfold upd at hj
    split at hj
    · exact hr j hj
    · simp [A.ids] at hj
  · rw [hR] at hj
    exact ⟨rfl, hsub j hj.1⟩
  · show dfs (upd (fun _ => A.top) 0 r DID) = dfs (upd (fun _ => A.top) 0 r DID)
    rfl
end V
end Go.Proofs.YtbmbmcdaabhgnaaDoor
end
section
set_option linter.unusedVariables false
set_option linter.unusedSimpArgs false
namespace Go.Proofs.YtbmbmcdaabhgnaaDoor
namespace V
open Go.RowKit
def adrB (u : Bool) (j : Nat) : A := if u = true then .ptr j 0 else .nilv (.pointer none)
def pageB (u : Bool) (j q : Nat) (t : Int) : O := .box 47 [adrB u j, .own q, .c (.int .i64 t)]
theorem copyCheck_ok {M : Mem} {j q : Nat} {t : Int} (u : Bool) (hj : M j = some (pageB u j q t)) (hq : (M q).isSome = true) : CallE Tryd.prog 74 [.ptr j 0] M [] (.tup []) (upd M j (some (pageB true j q t))) := by
  have hjs : (M j).isSome = true := by rw [hj]; rfl
  have hids : ∀ i ∈ (pageB true j q t).ids, (M i).isSome = true := fun i hi => by
    simp [pageB, adrB, O.ids, A.ids] at hi
    rcases hi with rfl | rfl
    · exact hjs
    · exact hq
  refine ⟨enters_of Tryd.func74 (by kernel_rfl) rfl, fun i hi => by simp [A.ids] at hi, fun i hi => live_upd i hi, fun hw => mwf_some hw (fun i hi => live_upd i (hids i hi)), ?_⟩
  intro w0 I0 B I w vals hm hv
  match vals, hv with
  | [v], ⟨h1, _⟩ =>
    obtain ⟨b, vs, hB, hh, hvs, hno⟩ := hm.objs j _ hj
    obtain ⟨b', hB', rfl⟩ := h1
    obtain rfl : b = b' := by rw [hB] at hB'; cases hB'; rfl
    match vs, hvs with
    | [x0, x1, x2], ⟨⟨h0, c0⟩, ⟨hx1, c1⟩, ⟨hx2, c2⟩, _⟩ =>
      cases u with
      | true =>
        obtain ⟨b2, hB2, hx0⟩ := h0
        obtain rfl : b = b2 := by rw [hB] at hB2; cases hB2; rfl
        subst hx0
        refine (copyCheck_used b w (by simp [World.cell?, hh])).mono ?_
        rintro e w' ⟨rfl, rfl⟩
        exact ⟨_, B, I, rfl, by rw [upd_id M hj]; exact hm, Ext.refl _ _, fun _ _ _ => rfl, [], rfl, trivial⟩
      | false =>
        have h0 : x0 = .pointer none := h0
        subst h0
        refine (copyCheck_fresh b w (by simp [World.cell?, hh]) (by simp [World.shape?, hh]) (by simp [World.frozen?, hh])).mono ?_
        rintro e w' ⟨rfl, rfl⟩
        have hset : (w.setCell ⟨b, 0, none⟩ (.pointer (some ⟨b, 0, none⟩))).heap[b]? = some (.cells ([.pointer (some ⟨b, 0, none⟩), x1, x2] : List Value).toArray 47) := by
          simp only [World.setCell, Array.getElem?_modify, if_true, hh]
          rfl
        have ht := hm.turn (w' := w.setCell ⟨b, 0, none⟩ (.pointer (some ⟨b, 0, none⟩))) (j := j) (b := b) (o' := pageB true j q t) hj ⟨0, hB⟩ (fun k hk => by
          obtain ⟨off, hk⟩ := hk
          rw [hB] at hk; cases hk; rfl) hno rfl rfl rfl (by simp [World.setCell]) (fun k hk => Below.heap_setCell w ⟨b, 0, none⟩ _ k hk) hids (fun hE => ⟨b, [.pointer (some ⟨b, 0, none⟩), x1, x2], hB, hset, ⟨⟨⟨b, hB, rfl⟩, rfl⟩, ⟨hx1.mono hE (fun _ _ => rfl), c1⟩, ⟨hx2.mono hE (fun _ _ => rfl), c2⟩, trivial⟩, hno⟩)
        exact ⟨_, B, I, rfl, ht.1, ht.2, fun _ _ _ => rfl, [], rfl, trivial⟩
end V
end Go.Proofs.YtbmbmcdaabhgnaaDoor
end
section
set_option linter.unusedVariables false
set_option linter.unusedSimpArgs false
namespace Go.Proofs.YtbmbmcdaabhgnaaDoor
namespace V
open Go.RowKit
def textB (bs : List UInt8) : O := .arr 5 1 (cBytes bs)
def pgM (M : Mem) (j q : Nat) (u : Bool) (t : Int) (bs : List UInt8) : Mem := upd (upd M j (some (pageB u j q t))) q (some (textB bs))
structure PgAt (M : Mem) (j q : Nat) (u : Bool) (t : Int) (bs : List UInt8) : Prop where
  box : M j = some (pageB u j q t)
  row : M q = some (textB bs)
  ne : j ≠ q
  only : ∀ i o, M i = some o → i ≠ j → O.kill q o = o
theorem PgAt.pgM {M : Mem} {j q : Nat} {u u' : Bool} {t t' : Int} {bs bs' : List UInt8} (h : PgAt M j q u t bs) : PgAt (pgM M j q u' t' bs') j q u' t' bs' where
  box := by unfold V.pgM; rw [upd_ne _ _ h.ne, upd_same]
  row := by unfold V.pgM; rw [upd_same]
  ne := h.ne
  only := fun i o ho hi => by
    unfold V.pgM at ho
    by_cases e : i = q
    · subst e; rw [upd_same] at ho; cases ho; rfl
    · rw [upd_ne _ _ e, upd_ne _ _ hi] at ho; exact h.only i o ho hi
theorem pgM_same {M : Mem} {j q : Nat} {u : Bool} {t : Int} {bs : List UInt8} (h : PgAt M j q u t bs) : pgM M j q u t bs = M := by
  unfold pgM
  rw [upd_id M h.box, upd_id M h.row]
theorem pgM_pgM {M : Mem} {j q : Nat} {u u' : Bool} {t t' : Int} {bs bs' : List UInt8} (h : j ≠ q) : pgM (pgM M j q u t bs) j q u' t' bs' = pgM M j q u' t' bs' := by
  funext i
  unfold pgM upd
  by_cases e1 : i = q
  · simp [e1]
  · by_cases e2 : i = j <;> simp [e1, e2]
theorem pgM_live {M : Mem} {j q : Nat} {u : Bool} {t : Int} {bs : List UInt8} : ∀ i, (M i).isSome = true → (pgM M j q u t bs i).isSome = true := fun i hi => live_upd i (live_upd i hi)
theorem pgM_wf {M : Mem} {j q : Nat} {u u' : Bool} {t t' : Int} {bs bs' : List UInt8} (h : PgAt M j q u t bs) (hw : WFm M) : WFm (pgM M j q u' t' bs') := by
  have hjs : (M j).isSome = true := by rw [h.box]; rfl
  have hqs : (M q).isSome = true := by rw [h.row]; rfl
  refine mwf_some (mwf_some hw (fun i hi => live_upd i ?_)) (fun i hi => by simp [textB, O.ids] at hi)
  unfold pageB adrB at hi
  cases u' <;> simp [O.ids, A.ids] at hi
  · subst hi; exact hqs
  · rcases hi with rfl | rfl
    · exact hjs
    · exact hqs
theorem writeS_ok {M : Mem} {j q : Nat} {u : Bool} {t : Int} {bs : List UInt8} (h : PgAt M j q u t bs) (s : ByteArray) (hs : bs.length + s.size ≤ 140737488355328) : CallE Tryd.prog 48 [.ptr j 0, .c (.str s)] M [q] (.tupA [.c (.int .i64 s.size), .nilv .nilIface]) (pgM M j q true t (bs ++ s.data.toList)) := by
  have hjs : (M j).isSome = true := by rw [h.box]; rfl
  have hqs : (M q).isSome = true := by rw [h.row]; rfl
  have jq : (j = q) = False := eq_false h.ne
  have qj : (q = j) = False := eq_false (Ne.symm h.ne)
  have hq := h.row
  have hcb : (cBytes bs).length = bs.length := by unfold cBytes; rw [List.length_map]
  refine (ok_eff tab_ok [q] Tryd.func48 (by kernel_rfl) rfl rfl (by rfl) (by rfl) ?ids ?res ?sub ?wfm (fun hWF Rr hkeep => ?_))
  case ids => intro a ha i hi; simp at ha; rcases ha with rfl | rfl <;> simp [A.ids] at hi; subst hi; exact hjs
  case res => intro i hi; simp [A.ids, A1.ids] at hi
  case sub => exact pgM_live
  case wfm => exact pgM_wf h
  have nkq : ¬ Rr.keep q := by rw [hkeep]; intro hh; exact hh.2 (by simp)
  repeat (first | refine W.seq ?_ | refine W.block ?_ | refine W.skip ?_ | refine W.exit ?_ | refine W.region tab_ok 0 (by decide) (exec_run (by simp only [exa, beq_self_eq_true, ByteArray.size, Nat.reduceAdd, Nat.reduceLeDiff, Nat.reduceEqDiff, Nat.reduceMul, Int.reduceToNat, reduceIte, Int.reduceLE, Int.reduceNeg]; rfl)) ?_)
  (repeat (first | refine W.seq ?_ | refine W.block ?_ | refine W.skip ?_))
  refine W.regionK tab_ok 0 (by decide) ?_
  refine runk_split 1 (by simp only [exa, beq_self_eq_true, ByteArray.size, Nat.reduceAdd, Nat.reduceLeDiff, Nat.reduceEqDiff, Nat.reduceMul, Int.reduceToNat, reduceIte, Int.reduceLE, Int.reduceNeg]; rfl) ?_
  refine runk_callE (D := []) rfl rfl rfl rfl rfl (fun j hj => by simp at hj) (by simp) (cvs_cons cv_refl cvs_nil) (copyCheck_ok u h.box hqs) ?_
  simp only [killL, putS, upd_upd]
  refine runk_exec (by simp only [exa, beq_self_eq_true, ByteArray.size, Nat.reduceAdd, Nat.reduceLeDiff, Nat.reduceEqDiff, Nat.reduceMul, Int.reduceToNat, reduceIte, Int.reduceLE, Int.reduceNeg]; rfl) ?_
  (repeat (first | refine W.seq ?_ | refine W.block ?_ | refine W.skip ?_))
  refine W.regionK tab_ok 0 (by decide) ?_
  refine runk_split 6 (by simp only [exa, beq_self_eq_true, ByteArray.size, Nat.reduceAdd, Nat.reduceLeDiff, Nat.reduceEqDiff, Nat.reduceMul, Int.reduceToNat, reduceIte, Int.reduceLE, Int.reduceNeg, pageB, adrB, upd_same, jq, qj, hq, textB]; rfl) ?_
  refine runk_appendS tab_ok q rfl rfl rfl rfl rfl rfl (by simp only [exa, beq_self_eq_true, ByteArray.size, Nat.reduceAdd, Nat.reduceLeDiff, Nat.reduceEqDiff, Nat.reduceMul, Int.reduceToNat, reduceIte, Int.reduceLE, Int.reduceNeg]) (by simp only [exa, beq_self_eq_true, ByteArray.size, Nat.reduceAdd, Nat.reduceLeDiff, Nat.reduceEqDiff, Nat.reduceMul, Int.reduceToNat, reduceIte, Int.reduceLE, Int.reduceNeg, pageB, adrB, upd_same, jq, qj, hq, textB]; rfl) (by simp only [exa, beq_self_eq_true, ByteArray.size, Nat.reduceAdd, Nat.reduceLeDiff, Nat.reduceEqDiff, Nat.reduceMul, Int.reduceToNat, reduceIte, Int.reduceLE, Int.reduceNeg]; rfl) rfl rfl rfl rfl nkq (by rw [hcb]; exact hs) ?_
  refine runk_exec (by simp only [exa, beq_self_eq_true, ByteArray.size, Nat.reduceAdd, Nat.reduceLeDiff, Nat.reduceEqDiff, Nat.reduceMul, Int.reduceToNat, reduceIte, Int.reduceLE, Int.reduceNeg, killM_app, killS_app, A.kill, O.kill, pageB, adrB, upd_same, jq, qj, hq, textB, List.map_cons, List.map_nil, Option.map_some]; rfl) ?_
  (repeat (first | refine W.seq ?_ | refine W.block ?_ | refine W.skip ?_))
  refine W.regionK tab_ok 0 (by decide) ?_
  refine runk_exec (by simp only [exa, beq_self_eq_true, ByteArray.size, Nat.reduceAdd, Nat.reduceLeDiff, Nat.reduceEqDiff, Nat.reduceMul, Int.reduceToNat, reduceIte, Int.reduceLE, Int.reduceNeg]; rfl) ?_
  (repeat (first | refine W.seq ?_ | refine W.block ?_ | refine W.skip ?_))
  refine W.ret ⟨.inr rfl, by rfl, ?_, ?mle⟩
  simp only [Tryd.f48, resE, resOne, fin, toT, exa, beq_self_eq_true, ByteArray.size, Nat.reduceAdd, Nat.reduceLeDiff, Nat.reduceEqDiff, Nat.reduceMul, Int.reduceToNat, reduceIte, Int.reduceLE, Int.reduceNeg]
  case mle =>
    intro i
    have hbx := h.box
    by_cases e1 : i = q
    · subst e1; right; simp [upd_app, pgM, textB, cBytes, qj]
    by_cases e2 : i = j
    · subst e2; right; simp [upd_app, pgM, pageB, adrB, jq, A.kill]
    cases ho : M i with
    | none => left; simp [upd_app, pgM, e1, e2, ho]
    | some o => right; simp [upd_app, pgM, e1, e2, killM_app, ho, h.only i o ho e2]
end V
end Go.Proofs.YtbmbmcdaabhgnaaDoor
end
section
set_option linter.unusedVariables false
set_option linter.unusedSimpArgs false
namespace Go.Proofs.YtbmbmcdaabhgnaaDoor
namespace V
open Go.RowKit
theorem mle_mr {w0 w : World} {I0 I : Nat → Nat → Prop} {B : Nat → Value} {m M' : Mem} (hm : MR w0 I0 B I m w) (hle : MLe m M') (hw : WFm M') : MR w0 I0 B I M' w := by
  have hsome : ∀ j o, M' j = some o → m j = some o := fun j o ho => by
    rcases hle j with q | q
    · rw [q] at ho; cases ho
    · exact q.symm.trans ho
  exact ⟨hm.below, hm.glob, hm.base, hm.old, hm.there, fun j o ho => hm.objs j o (hsome j o ho), fun j o ho => hm.low j o (hsome j o ho), fun j o j' o' ho ho' => hm.apart j o j' o' (hsome j o ho) (hsome j' o' ho'), fun j o ho i hi => hw j o ho i hi⟩
def CallDf (P : Go.Program) (f : FuncId) (args : List A) (M : Mem) (D : List Nat) (M' : Mem) : Prop :=
  (∀ args w, (callFunc f args).run P w = .ok (.enter f args) w) ∧ (∀ j, (M j).isSome = true → (M' j).isSome = true) ∧ (WFm M → WFm M') ∧
  ∀ (w0 : World) (I0 : Nat → Nat → Prop) (B : Nat → Value) (I : Nat → Nat → Prop) (w : World) (vals : List Value) (u : FrameMode), MR w0 I0 B I M w → RVl B w I args vals →
    CallsD P f vals.toArray u w fun e u' w' => u' = u ∧ ∃ v B' I', e = .returned v ∧ MR w0 I0 B' I' M' w' ∧ Ext w w' I I' ∧ ∀ j, (M j).isSome = true → j ∉ D → B' j = B j
theorem ok_effDf {P : Go.Program} {T : Tab} (hT : T.Ok P) {f : FuncId} {fn : Func} {c : Code} {l : List ResultVar} {args : List A} {M : Mem} (D : List Nat) {r : A} {M' : Mem} (hf : P.funcs[f]? = some fn) (hn : (fn.name == "runtime.NumGoroutine") = false) (hb : fn.body = some c) (hl : fn.results.toList = l)
    (hle : decide (args.length ≤ fn.ntmps ∧ fn.ntmps ≤ DID) = true) (hdf : args.all (fun a => !(match a with | .defs _ => true | _ => false)) = true) (hids : ∀ a ∈ args, ∀ j ∈ a.ids, (M j).isSome = true) (hsub : ∀ j, (M j).isSome = true → (M' j).isSome = true) (hwm : WFm M → WFm M')
    (hW : WFm M → ∀ R : Ref, R.keep = (fun j => (M j).isSome = true ∧ j ∉ D) → W P R fn.ntmps [] ⟨entry args, M⟩ c (fun e st => (e = .normal ∨ e = .ret) ∧ dfs (st.s DID) = [] ∧ resE T st l = some r ∧ MLe st.m M')) : CallDf P f args M D M' := by
  refine ⟨enters_of hf hn hb, hsub, hwm, ?_⟩
  intro w0 I0 B I w vals u hm hv
  have hWF : WFm M := hm.live
  have hd2 : ∀ a ∈ args, ∀ l, a ≠ .defs l := fun a ha l e => by have := List.all_eq_true.1 hdf a ha; subst e; simp at this
  obtain ⟨hl1, hl2⟩ := of_decide_eq_true hle
  have hlen := rvl_len hv
  refine callsD_of_wp (R := fun e w' => ∃ v B' I', e = .returned v ∧ MR w0 I0 B' I' M' w' ∧ Ext w w' I I' ∧ ∀ j, (M j).isSome = true → j ∉ D → B' j = B j) hf hb ?_
  have h0 : SR ⟨w0, I0, w, I, B, fun j => (M j).isSome = true ∧ j ∉ D⟩ fn.ntmps [] ⟨entry args, M⟩ { tmps := vals.toArray ++ Array.replicate (fn.ntmps - vals.toArray.size) undef, defers := [] } w := by
    refine ⟨⟨B, I, hm, Ext.refl _ _, fun _ _ => rfl, rvl_entry hv⟩, fun t i hi => ?_, by simp [hlen]; omega, hl2, by rw [show dfs ((⟨entry args, M⟩ : St).s DID) = [] from entry_dfs (fun a ha l e => by subst e; exact hd2 _ ha l rfl)]; rfl, fun i hi => hi.1⟩
    simp only [entry, List.getD_eq_getElem?_getD] at hi
    cases hx : args[t]? with
    | none => rw [hx] at hi; simp [A.ids] at hi
    | some a => rw [hx] at hi; exact hids a (List.mem_of_getElem? hx) i hi
  refine wp_mono (hW hWF _ rfl _ w h0) ?_
  rintro e a' w' ⟨st', ⟨he, hdn, hres, hle2⟩, ⟨⟨B', I', hm', hx', hkp', hs'⟩, -, -, -, hds, -⟩⟩
  rw [hdn] at hds
  obtain ⟨v, h1, h2⟩ := resE_snd hT hm' hs' hl hres
  have key : a'.defers = [] ∧ ∃ v, (results fn a'.tmps).run P w' = .ok v w' ∧ ∃ v' B' I', Ending.returned v = .returned v' ∧ MR w0 I0 B' I' M' w' ∧ Ext w w' I I' ∧ ∀ j, (M j).isSome = true → j ∉ D → B' j = B j :=
    ⟨hds, v, h1, v, B', I', rfl, mle_mr hm' hle2 (hwm hWF), hx', fun j hj hd => hkp' j ⟨hj, hd⟩⟩
  rcases he with rfl | rfl
  · exact key
  · exact key
end V
end Go.Proofs.YtbmbmcdaabhgnaaDoor
end
section
set_option linter.unusedVariables false
set_option linter.unusedSimpArgs false
namespace Go.Proofs.YtbmbmcdaabhgnaaDoor
namespace V
open Go.RowKit
def txtB (l : List ByteArray) : List UInt8 := l.flatMap fun s => s.data.toList
theorem txtB_snoc (l : List ByteArray) (s : ByteArray) : txtB (l ++ [s]) = txtB l ++ s.data.toList := by simp [txtB]
theorem txtB_le (l : List ByteArray) (k : Nat) : (txtB (l.take k)).length ≤ (txtB l).length := by
  have : txtB l = txtB (l.take k) ++ txtB (l.drop k) := by unfold txtB; rw [← List.flatMap_append, List.take_append_drop]
  rw [this, List.length_append]; omega
def layU (u : Bool) (l : List ByteArray) : Bool := u || !l.isEmpty
theorem layU_take (u : Bool) {l : List ByteArray} {k : Nat} {s : ByteArray} (h : l[k]? = some s) : layU u (l.take (k + 1)) = true := by
  rw [List.take_add_one, h]; simp [layU]
set_option maxHeartbeats 1000000 in
theorem lay_W {M : Mem} {j q : Nat} {u : Bool} {t : Int} {bs : List UInt8} (h : PgAt M j q u t bs) (l : List ByteArray) (hl : l.length ≤ 1000000000) (hs : bs.length + (txtB l).length ≤ 140737488355328) {c : Code} (hc : (Tryd.f23).body = some c) (hWF : WFm M) (Rr : Ref) (hkeep : Rr.keep = (fun i => (M i).isSome = true ∧ i ∉ [q])) :
    W Tryd.prog Rr (Tryd.f23).ntmps [] ⟨entry [.ptr j 0, .c (.sl (l.map cStr))], M⟩ c (fun e st => (e = .normal ∨ e = .ret) ∧ dfs (st.s DID) = [] ∧ resE tab st (Tryd.f23).results.toList = some (.tup []) ∧ MLe st.m (pgM M j q (layU u l) t (bs ++ txtB l))) := by
  obtain rfl : _ = c := Option.some.inj hc
  have hjs : (M j).isSome = true := by rw [h.box]; rfl
  have nkq : ¬ Rr.keep q := by rw [hkeep]; intro hh; exact hh.2 (by simp)
  have kept : ∀ i, Rr.keep i → (M i).isSome = true := fun i hi => by rw [hkeep] at hi; exact hi.1
  repeat (first | refine W.seq ?_ | refine W.block ?_ | refine W.skip ?_ | refine W.exit ?_ | refine W.region tab_ok 0 (by decide) (exec_run (by simp only [exa, beq_self_eq_true, ByteArray.size, Nat.reduceAdd, Nat.reduceLeDiff, Nat.reduceEqDiff, Nat.reduceMul, Int.reduceToNat, reduceIte, Int.reduceLE, Int.reduceNeg]; rfl)) ?_)
  refine W.loop (ι := Nat) (fun k => ⟨upd (upd (upd (upd (fun _ => .top) 0 (.ptr j 0)) 6 (.c (.sl (l.map cStr)))) 7 (.c (.int .i64 l.length))) 8 (.c (.int .i64 k)), pgM M j q (layU u (l.take k)) t (bs ++ txtB (l.take k))⟩) (fun k => k ≤ l.length) (fun k => l.length - k) 0 ?start (Nat.zero_le _) ?round
  case start =>
    refine le_mk ?sle ?mle ?swf ?mwf (fun i hi => pgM_live i (kept i hi)) (by rfl)
    case swf => repeat (first | exact swf_top _ | refine swf_upd ?_ (by intro i hi; simp [A.ids] at hi; first | (subst hi; exact pgM_live _ hjs) | done))
    case mwf => exact pgM_wf h hWF
    case mle =>
      have e : pgM M j q (layU u (l.take 0)) t (bs ++ txtB (l.take 0)) = M := by
        have : layU u (l.take 0) = u := by simp [layU]
        rw [this]; simp only [List.take_zero, txtB, List.flatMap_nil, List.append_nil]; exact pgM_same h
      exact mle_refl' e.symm
    case sle => repeat (first | exact sle_top _ | exact sle_refl _ | refine sle_upd ?_ (by first | rfl | (simp only [upd_app, killS_app, A.kill, entry_zero, entry_succ, Nat.reduceEqDiff, reduceIte, List.length_map]; done)))
  case round =>
    intro k hk
    repeat (first | refine W.seq ?_ | refine W.block ?_ | refine W.skip ?_ | refine W.exit ?_ | refine W.region tab_ok 0 (by decide) (exec_run (by simp only [exa, beq_self_eq_true, ByteArray.size, Nat.reduceAdd, Nat.reduceLeDiff, Nat.reduceEqDiff, Nat.reduceMul, Int.reduceToNat, reduceIte, Int.reduceLE, Int.reduceNeg]; rfl)) ?_)
    refine W.cond rfl ?_ ?_
    · intro hlt
      simp only [decide_eq_true_eq, Int.ofNat_lt] at hlt
      obtain ⟨s, hx⟩ : ∃ s, l[k]? = some s := ⟨_, List.getElem?_eq_getElem hlt⟩
      have htk : txtB (l.take (k + 1)) = txtB (l.take k) ++ s.data.toList := by rw [List.take_add_one, hx]; exact txtB_snoc _ _
      have hle := txtB_le l (k + 1)
      rw [htk, List.length_append] at hle
      have hsz : s.data.toList.length = s.size := by rw [Array.length_toList]; rfl
      have hw := writeS_ok (h.pgM (u' := layU u (l.take k)) (t' := t) (bs' := bs ++ txtB (l.take k))) s (by rw [List.length_append]; omega)
      rw [pgM_pgM h.ne, List.append_assoc, ← htk] at hw
      have hu := layU_take u hx
      repeat (first | refine W.seq ?_ | refine W.block ?_ | refine W.skip ?_ | refine W.exit ?_ | refine W.region tab_ok 0 (by decide) (exec_run (by simp only [exa, beq_self_eq_true, ByteArray.size, Nat.reduceAdd, Nat.reduceLeDiff, Nat.reduceEqDiff, Nat.reduceMul, Int.reduceToNat, reduceIte, Int.reduceLE, Int.reduceNeg, at_map hx, cStr]; rfl)) ?_)
      (repeat (first | refine W.seq ?_ | refine W.block ?_ | refine W.skip ?_))
      refine W.regionK tab_ok 0 (by decide) ?_
      refine runk_split 4 (by simp only [exa, beq_self_eq_true, ByteArray.size, Nat.reduceAdd, Nat.reduceLeDiff, Nat.reduceEqDiff, Nat.reduceMul, Int.reduceToNat, reduceIte, Int.reduceLE, Int.reduceNeg]; rfl) ?_
      refine runk_callE (D := [q]) rfl rfl rfl rfl rfl (fun i hi => by simp at hi; subst hi; exact nkq) (by simp) (cvs_cons cv_refl (cvs_cons cv_refl cvs_nil)) hw ?_
      simp only [killL, putS]
      refine runk_exec (by simp only [exa, beq_self_eq_true, ByteArray.size, Nat.reduceAdd, Nat.reduceLeDiff, Nat.reduceEqDiff, Nat.reduceMul, Int.reduceToNat, reduceIte, Int.reduceLE, Int.reduceNeg]; rfl) ?_
      repeat (first | refine W.seq ?_ | refine W.block ?_ | refine W.skip ?_ | refine W.exit ?_ | refine W.region tab_ok 0 (by decide) (exec_run (by simp only [exa, beq_self_eq_true, ByteArray.size, Nat.reduceAdd, Nat.reduceLeDiff, Nat.reduceEqDiff, Nat.reduceMul, Int.reduceToNat, reduceIte, Int.reduceLE, Int.reduceNeg]; rfl)) ?_)
      refine ⟨k + 1, hlt, by omega, ?_⟩
      rw [hu]
      refine le_mk ?sle ?mle ?swf ?mwf (fun i hi => pgM_live i (kept i hi)) (by rfl)
      case swf => repeat (first | exact swf_top _ | refine swf_upd ?_ (by intro i hi; simp [A.ids] at hi; first | (subst hi; exact pgM_live _ hjs) | done))
      case mwf => exact pgM_wf h hWF
      case mle => exact mle_refl _
      case sle => repeat (first | exact sle_top _ | exact sle_refl _ | refine sle_upd ?_ (by first | rfl | (simp only [upd_app, killS_app, A.kill, entry_zero, entry_succ, Nat.reduceEqDiff, reduceIte, h.ne, if_false, wrap_succ (show k + 1 < 9223372036854775808 by omega)]; done)))
    · intro hge
      simp only [decide_eq_false_iff_not, Int.ofNat_lt] at hge
      obtain rfl : k = l.length := by omega
      rw [List.take_length]
      repeat (first | refine W.seq ?_ | refine W.block ?_ | refine W.skip ?_ | refine W.exit ?_ | refine W.region tab_ok 0 (by decide) (exec_run (by simp only [exa, beq_self_eq_true, ByteArray.size, Nat.reduceAdd, Nat.reduceLeDiff, Nat.reduceEqDiff, Nat.reduceMul, Int.reduceToNat, reduceIte, Int.reduceLE, Int.reduceNeg]; rfl)) ?_)
      exact ⟨.inl rfl, by rfl, by rfl, mle_refl _⟩
theorem lay_ok {M : Mem} {j q : Nat} {u : Bool} {t : Int} {bs : List UInt8} (h : PgAt M j q u t bs) (l : List ByteArray) (hl : l.length ≤ 1000000000) (hs : bs.length + (txtB l).length ≤ 140737488355328) :
    CallE Tryd.prog 23 [.ptr j 0, .c (.sl (l.map cStr))] M [q] (.tup []) (pgM M j q (layU u l) t (bs ++ txtB l)) := by
  have hjs : (M j).isSome = true := by rw [h.box]; rfl
  refine (ok_eff tab_ok [q] Tryd.func23 (by kernel_rfl) rfl rfl (by rfl) (by rfl) ?ids ?res pgM_live (pgM_wf h) (fun hWF Rr hkeep => lay_W h l hl hs rfl hWF Rr hkeep))
  case ids => intro a ha i hi; simp at ha; rcases ha with rfl | rfl <;> simp [A.ids] at hi; subst hi; exact hjs
  case res => intro i hi; simp [A.ids] at hi
theorem lay_df {M : Mem} {j q : Nat} {u : Bool} {t : Int} {bs : List UInt8} (h : PgAt M j q u t bs) (l : List ByteArray) (hl : l.length ≤ 1000000000) (hs : bs.length + (txtB l).length ≤ 140737488355328) :
    CallDf Tryd.prog 23 [.ptr j 0, .c (.sl (l.map cStr))] M [q] (pgM M j q (layU u l) t (bs ++ txtB l)) := by
  have hjs : (M j).isSome = true := by rw [h.box]; rfl
  refine (ok_effDf tab_ok [q] Tryd.func23 (by kernel_rfl) rfl rfl (by rfl) (by rfl) ?ids pgM_live (pgM_wf h) (fun hWF Rr hkeep => lay_W h l hl hs rfl hWF Rr hkeep))
  case ids => intro a ha i hi; simp at ha; rcases ha with rfl | rfl <;> simp [A.ids] at hi; subst hi; exact hjs
end V
end Go.Proofs.YtbmbmcdaabhgnaaDoor
end
section
set_option linter.unusedVariables false
set_option linter.unusedSimpArgs false
namespace Go.Proofs.YtbmbmcdaabhgnaaDoor
namespace V
open Go.RowKit
def ExprAt (x : Expr) : Prop := ∀ (M : Mem) (j q : Nat) (u : Bool) (t : Int) (bs : List UInt8) (b : Nat) (want : Int), PgAt M j q u t bs → (∀ d, M (b + d) = none) → bs.length + (exprX x want).length ≤ 140737488355328 →
  CallE Tryd.prog 16 [.ptr j 0, .agg (cExpr x), .c (.int .i64 want)] M [q] (.tup []) (pgM M j q true t (bs ++ exprX x want))
theorem PgAt.new {M : Mem} {j q i : Nat} {u : Bool} {t : Int} {bs : List UInt8} {o : O} (h : PgAt M j q u t bs) (hi : M i = none) (ho : O.kill q o = o) : PgAt (upd M i (some o)) j q u t bs := by
  have hj : j ≠ i := fun e => by have := h.box; rw [e, hi] at this; cases this
  have hq : q ≠ i := fun e => by have := h.row; rw [e, hi] at this; cases this
  refine ⟨by rw [upd_ne _ _ hj]; exact h.box, by rw [upd_ne _ _ hq]; exact h.row, h.ne, fun k o' hk hkj => ?_⟩
  by_cases e : k = i
  · subst e; rw [upd_same] at hk; cases hk; exact ho
  · rw [upd_ne _ _ e] at hk; exact h.only k o' hk hkj
theorem pgM_upd {M : Mem} {j q i : Nat} {u : Bool} {t : Int} {bs : List UInt8} {o : Option O} (hj : j ≠ i) (hq : q ≠ i) : pgM (upd M i o) j q u t bs = upd (pgM M j q u t bs) i o := by
  funext k
  unfold pgM upd
  by_cases e1 : k = q
  · subst e1; simp [hq]
  · by_cases e2 : k = j
    · subst e2; simp [hj, e1]
    · simp [e1, e2]
theorem pgM_none {M : Mem} {j q i : Nat} {u u' : Bool} {t t' : Int} {bs bs' : List UInt8} (h : PgAt M j q u t bs) (hi : M i = none) : pgM M j q u' t' bs' i = none := by
  have hj : i ≠ j := fun e => by have := h.box; rw [← e, hi] at this; cases this
  have hq : i ≠ q := fun e => by have := h.row; rw [← e, hi] at this; cases this
  unfold pgM
  rw [upd_ne _ _ hq, upd_ne _ _ hj, hi]
theorem mle_off {m : Mem} {i : Nat} {o : O} (hi : m i = none) : MLe (upd m i (some o)) m := fun k => by
  by_cases e : k = i
  · subst e; exact .inl hi
  · exact .inr (upd_ne _ _ e).symm
theorem mle_eq {m a b : Mem} (e : b = a) (h : MLe m a) : MLe m b := e ▸ h
set_option maxHeartbeats 2000000 in
theorem list_ok {M : Mem} {j q b : Nat} {u : Bool} {t : Int} {bs : List UInt8} (h : PgAt M j q u t bs) (hM : ∀ d, M (b + d) = none) (l : List Expr) (hx : ∀ x ∈ l, ExprAt x) (e : ByteArray) (hl : l.length ≤ 1000000000) (hs : bs.length + (listE l).length + e.size ≤ 140737488355328) :
    CallE Tryd.prog 40 [.ptr j 0, .c (.sl (l.map cExpr)), .c (.str e)] M [q] (.tup []) (pgM M j q true t (bs ++ listE l ++ e.data.toList)) := by
  have hjs : (M j).isSome = true := by rw [h.box]; rfl
  have hqs : (M q).isSome = true := by rw [h.row]; rfl
  have bj : ∀ d, j ≠ b + d := fun d k => by have := hM d; rw [← k] at this; rw [this] at hjs; cases hjs
  have bq : ∀ d, q ≠ b + d := fun d k => by have := hM d; rw [← k] at this; rw [this] at hqs; cases hqs
  refine (ok_eff tab_ok [q] Tryd.func40 (by kernel_rfl) rfl rfl (by rfl) (by rfl) ?ids ?res ?sub ?wfm (fun hWF Rr hkeep => ?_))
  case ids => intro a ha i hi; simp at ha; rcases ha with rfl | rfl | rfl <;> simp [A.ids] at hi; subst hi; exact hjs
  case res => intro i hi; simp [A.ids] at hi
  case sub => exact pgM_live
  case wfm => exact pgM_wf h
  have nkq : ¬ Rr.keep q := by rw [hkeep]; intro hh; exact hh.2 (by simp)
  have kept : ∀ i, Rr.keep i → (M i).isSome = true := fun i hi => by rw [hkeep] at hi; exact hi.1
  have jq : (j = q) = False := eq_false h.ne
  repeat (first | refine W.seq ?_ | refine W.block ?_ | refine W.skip ?_ | refine W.exit ?_ | refine W.region tab_ok b (by decide) (exec_run (by simp only [exa, beq_self_eq_true, ByteArray.size, Nat.reduceAdd, Nat.reduceLeDiff, Nat.reduceEqDiff, Nat.reduceMul, Int.reduceToNat, reduceIte, Int.reduceLE, Int.reduceNeg]; rfl)) ?_)
  refine W.loop (ι := Nat) (fun k => ⟨upd (upd (upd (upd (upd (fun _ => .top) 0 (.ptr j 0)) 2 (.c (.str e))) 8 (.c (.sl (l.map cExpr)))) 9 (.c (.int .i64 l.length))) 10 (.c (.int .i64 k)), pgM M j q (u || decide (0 < k)) t (bs ++ commaX ((l.map (exprX · 1)).take k))⟩) (fun k => k ≤ l.length) (fun k => l.length - k) 0 ?start (Nat.zero_le _) ?round
  case start =>
    refine le_mk ?sle ?mle ?swf ?mwf (fun i hi => pgM_live i (kept i hi)) (by rfl)
    case swf => repeat (first | exact swf_top _ | refine swf_upd ?_ (by intro i hi; simp [A.ids] at hi; first | (subst hi; exact pgM_live _ hjs) | done))
    case mwf => exact pgM_wf h hWF
    case mle =>
      have e : pgM M j q (u || decide (0 < 0)) t (bs ++ commaX ((l.map (exprX · 1)).take 0)) = M := by
        simp only [Nat.lt_irrefl, decide_false, Bool.or_false, List.take_zero, commaX, List.append_nil]; exact pgM_same h
      exact mle_refl' e.symm
    case sle => repeat (first | exact sle_top _ | exact sle_refl _ | refine sle_upd ?_ (by first | rfl | (simp only [upd_app, killS_app, A.kill, entry_zero, entry_succ, Nat.reduceEqDiff, reduceIte, List.length_map]; done)))
  case round =>
    intro k hk
    repeat (first | refine W.seq ?_ | refine W.block ?_ | refine W.skip ?_ | refine W.exit ?_ | refine W.region tab_ok b (by decide) (exec_run (by simp only [exa, beq_self_eq_true, ByteArray.size, Nat.reduceAdd, Nat.reduceLeDiff, Nat.reduceEqDiff, Nat.reduceMul, Int.reduceToNat, reduceIte, Int.reduceLE, Int.reduceNeg]; rfl)) ?_)
    refine W.cond rfl ?_ ?_
    · intro hlt
      simp only [decide_eq_true_eq, Int.ofNat_lt] at hlt
      obtain ⟨x, hxk⟩ : ∃ x, l[k]? = some x := ⟨_, List.getElem?_eq_getElem hlt⟩
      have htk := commaX_take hxk
      have hle := commaX_le (l.map (exprX · 1)) (k + 1)
      have hlE : (listE l).length = (commaX (l.map (exprX · 1))).length := rfl
      have hlen := congrArg List.length htk
      simp only [List.length_append] at hlen
      have b7 := hM 7
      obtain ⟨u1, hu1⟩ : ∃ u1, u1 = (u || decide (0 < k)) := ⟨_, rfl⟩
      obtain ⟨b1, hb1⟩ : ∃ b1, b1 = bs ++ commaX ((l.map (exprX · 1)).take k) := ⟨_, rfl⟩
      have hlb : b1.length = bs.length + (commaX ((l.map (exprX · 1)).take k)).length := by rw [hb1, List.length_append]
      rw [← hu1, ← hb1]
      obtain ⟨xk, xn, xm, xs⟩ := x
      have hf7 : pgM M j q u1 t b1 (b + 7) = none := pgM_none h b7
      have hp1 : PgAt (pgM M j q u1 t b1) j q u1 t b1 := h.pgM
      have b7j : (b + 7 = j) = False := eq_false (Ne.symm (bj 7))
      have b7q : (b + 7 = q) = False := eq_false (Ne.symm (bq 7))
      have jb7 : (j = b + 7) = False := eq_false (bj 7)
      repeat (first | refine W.seq ?_ | refine W.block ?_ | refine W.skip ?_ | refine W.exit ?_ | refine W.region tab_ok b (by decide) (exec_run (by simp only [exa, beq_self_eq_true, ByteArray.size, Nat.reduceAdd, Nat.reduceLeDiff, Nat.reduceEqDiff, Nat.reduceMul, Int.reduceToNat, reduceIte, Int.reduceLE, Int.reduceNeg, at_map hxk, cExpr, hf7]; rfl)) ?_)
      simp only [upd_upd]
      refine W.cond rfl ?_ ?_
      · intro hk0
        simp only [decide_eq_true_eq] at hk0
        have hk0 : k ≠ 0 := by omega
        rw [if_neg hk0] at htk hlen
        simp only [List.length_cons, List.length_nil] at hlen
        have hl := lay_ok (hp1.new hf7 (o := .box 24 [.c (.int .i64 xk), .c (.int .i64 xn), .c (.str xm), .c (.sl (cExprs xs))]) rfl) [⟨#[44, 32]⟩] (by decide) (by simp [txtB]; omega)
        rw [pgM_upd (bj 7) (bq 7), pgM_pgM h.ne, show layU u1 [(⟨#[44, 32]⟩ : ByteArray)] = true by simp [layU]] at hl
        obtain ⟨b2, hb2⟩ : ∃ b2, b2 = b1 ++ txtB [(⟨#[44, 32]⟩ : ByteArray)] := ⟨_, rfl⟩
        rw [← hb2] at hl
        have hb2' : b2 = b1 ++ [44, 32] := by rw [hb2]; rfl
        (repeat (first | refine W.seq ?_ | refine W.block ?_ | refine W.skip ?_))
        refine W.regionK tab_ok b (by decide) ?_
        refine runk_split 2 (by simp only [exa, beq_self_eq_true, ByteArray.size, Nat.reduceAdd, Nat.reduceLeDiff, Nat.reduceEqDiff, Nat.reduceMul, Int.reduceToNat, reduceIte, Int.reduceLE, Int.reduceNeg]; rfl) ?_
        refine runk_callE (D := [q]) rfl rfl rfl rfl rfl (fun i hi => by simp at hi; subst hi; exact nkq) (by simp) (cvs_cons cv_refl (cvs_cons cv_refl cvs_nil)) hl ?_
        simp only [killL, putS]
        refine runk_exec (by simp only [exa, beq_self_eq_true, ByteArray.size, Nat.reduceAdd, Nat.reduceLeDiff, Nat.reduceEqDiff, Nat.reduceMul, Int.reduceToNat, reduceIte, Int.reduceLE, Int.reduceNeg]; rfl) ?_
        have hw := hx _ (List.mem_of_getElem? hxk) (upd (pgM M j q true t b2) (b + 7) (some (.box 24 [.c (.int .i64 xk), .c (.int .i64 xn), .c (.str xm), .c (.sl (cExprs xs))]))) j q true t b2 (b + 8) 1 (h.pgM.new (pgM_none h b7) rfl) (fun d => by rw [upd_ne _ _ (by omega), Nat.add_assoc]; exact pgM_none h (hM _)) (by rw [hb2', List.length_append]; simp only [List.length_cons, List.length_nil]; omega)
        rw [pgM_upd (bj 7) (bq 7), pgM_pgM h.ne] at hw
        (repeat (first | refine W.seq ?_ | refine W.block ?_ | refine W.skip ?_))
        refine W.regionK tab_ok b (by decide) ?_
        refine runk_split 2 (by simp only [exa, beq_self_eq_true, ByteArray.size, Nat.reduceAdd, Nat.reduceLeDiff, Nat.reduceEqDiff, Nat.reduceMul, Int.reduceToNat, reduceIte, Int.reduceLE, Int.reduceNeg, upd_same, killS_app, A.kill, jq, b7q, if_false, cExpr]; rfl) ?_
        refine runk_callE (D := [q]) rfl rfl rfl rfl rfl (fun i hi => by simp at hi; subst hi; exact nkq) (by simp) (cvs_cons cv_refl (cvs_cons cv_refl (cvs_cons cv_refl cvs_nil))) hw ?_
        simp only [killL, putS]
        refine runk_exec (by simp only [exa, beq_self_eq_true, ByteArray.size, Nat.reduceAdd, Nat.reduceLeDiff, Nat.reduceEqDiff, Nat.reduceMul, Int.reduceToNat, reduceIte, Int.reduceLE, Int.reduceNeg]; rfl) ?_
        repeat (first | refine W.seq ?_ | refine W.block ?_ | refine W.skip ?_ | refine W.exit ?_ | refine W.region tab_ok b (by decide) (exec_run (by simp only [exa, beq_self_eq_true, ByteArray.size, Nat.reduceAdd, Nat.reduceLeDiff, Nat.reduceEqDiff, Nat.reduceMul, Int.reduceToNat, reduceIte, Int.reduceLE, Int.reduceNeg, killS_app, A.kill, jq, b7q, if_false]; rfl)) ?_)
        refine ⟨k + 1, hlt, by omega, ?_⟩
        rw [show (u || decide (0 < k + 1)) = true by simp]
        refine le_mk ?sle ?mle ?swf ?mwf (fun i hi => pgM_live i (kept i hi)) (by rfl)
        case swf => repeat (first | exact swf_top _ | refine swf_upd ?_ (by intro i hi; simp [A.ids] at hi; first | (subst hi; exact pgM_live _ hjs) | done))
        case mwf => exact pgM_wf h hWF
        case mle => exact mle_eq (congrArg (pgM M j q true t) (by rw [htk, hb2', hb1]; simp [List.append_assoc])) (mle_off (pgM_none h b7))
        case sle => repeat (first | exact sle_top _ | exact sle_refl _ | refine sle_upd ?_ (by first | rfl | (simp only [upd_app, killS_app, A.kill, entry_zero, entry_succ, Nat.reduceEqDiff, reduceIte, h.ne, if_false, wrap_succ (show k + 1 < 9223372036854775808 by omega)]; done)))
      · intro hk0
        simp only [decide_eq_false_iff_not] at hk0
        have hk0 : k = 0 := by omega
        rw [if_pos hk0] at htk hlen
        simp only [List.length_nil] at hlen
        (repeat (first | refine W.seq ?_ | refine W.block ?_ | refine W.skip ?_))
        have hw := hx _ (List.mem_of_getElem? hxk) (upd (pgM M j q u1 t b1) (b + 7) (some (.box 24 [.c (.int .i64 xk), .c (.int .i64 xn), .c (.str xm), .c (.sl (cExprs xs))]))) j q u1 t b1 (b + 8) 1 (h.pgM.new (pgM_none h b7) rfl) (fun d => by rw [upd_ne _ _ (by omega), Nat.add_assoc]; exact pgM_none h (hM _)) (by omega)
        rw [pgM_upd (bj 7) (bq 7), pgM_pgM h.ne] at hw
        (repeat (first | refine W.seq ?_ | refine W.block ?_ | refine W.skip ?_))
        refine W.regionK tab_ok b (by decide) ?_
        refine runk_split 2 (by simp only [exa, beq_self_eq_true, ByteArray.size, Nat.reduceAdd, Nat.reduceLeDiff, Nat.reduceEqDiff, Nat.reduceMul, Int.reduceToNat, reduceIte, Int.reduceLE, Int.reduceNeg, upd_same, killS_app, A.kill, jq, b7q, if_false, cExpr]; rfl) ?_
        refine runk_callE (D := [q]) rfl rfl rfl rfl rfl (fun i hi => by simp at hi; subst hi; exact nkq) (by simp) (cvs_cons cv_refl (cvs_cons cv_refl (cvs_cons cv_refl cvs_nil))) hw ?_
        simp only [killL, putS]
        refine runk_exec (by simp only [exa, beq_self_eq_true, ByteArray.size, Nat.reduceAdd, Nat.reduceLeDiff, Nat.reduceEqDiff, Nat.reduceMul, Int.reduceToNat, reduceIte, Int.reduceLE, Int.reduceNeg]; rfl) ?_
        repeat (first | refine W.seq ?_ | refine W.block ?_ | refine W.skip ?_ | refine W.exit ?_ | refine W.region tab_ok b (by decide) (exec_run (by simp only [exa, beq_self_eq_true, ByteArray.size, Nat.reduceAdd, Nat.reduceLeDiff, Nat.reduceEqDiff, Nat.reduceMul, Int.reduceToNat, reduceIte, Int.reduceLE, Int.reduceNeg, killS_app, A.kill, jq, b7q, if_false]; rfl)) ?_)
        refine ⟨k + 1, hlt, by omega, ?_⟩
        rw [show (u || decide (0 < k + 1)) = true by simp]
        refine le_mk ?sle ?mle ?swf ?mwf (fun i hi => pgM_live i (kept i hi)) (by rfl)
        case swf => repeat (first | exact swf_top _ | refine swf_upd ?_ (by intro i hi; simp [A.ids] at hi; first | (subst hi; exact pgM_live _ hjs) | done))
        case mwf => exact pgM_wf h hWF
        case mle => exact mle_eq (congrArg (pgM M j q true t) (by rw [htk, hb1]; simp [List.append_assoc])) (mle_off (pgM_none h b7))
        case sle => repeat (first | exact sle_top _ | exact sle_refl _ | refine sle_upd ?_ (by first | rfl | (simp only [upd_app, killS_app, A.kill, entry_zero, entry_succ, Nat.reduceEqDiff, reduceIte, h.ne, if_false, wrap_succ (show k + 1 < 9223372036854775808 by omega)]; done)))
    · intro hge
      simp only [decide_eq_false_iff_not, Int.ofNat_lt] at hge
      obtain rfl : k = l.length := by omega
      rw [List.take_of_length_le (by simp)]
      repeat (first | refine W.seq ?_ | refine W.block ?_ | refine W.skip ?_ | refine W.exit ?_ | refine W.region tab_ok b (by decide) (exec_run (by simp only [exa, beq_self_eq_true, ByteArray.size, Nat.reduceAdd, Nat.reduceLeDiff, Nat.reduceEqDiff, Nat.reduceMul, Int.reduceToNat, reduceIte, Int.reduceLE, Int.reduceNeg]; rfl)) ?_)
      (repeat (first | refine W.seq ?_ | refine W.block ?_ | refine W.skip ?_))
      refine W.regionK tab_ok b (by decide) ?_
      have hw := lay_ok (h.pgM (u' := (u || decide (0 < l.length))) (t' := t) (bs' := bs ++ commaX (l.map (exprX · 1)))) [e] (by simp) (by simp [txtB]; simp [listE] at hs; omega)
      rw [show layU (u || decide (0 < l.length)) [e] = true by simp [layU], pgM_pgM h.ne] at hw
      refine runk_split 3 (by simp only [exa, beq_self_eq_true, ByteArray.size, Nat.reduceAdd, Nat.reduceLeDiff, Nat.reduceEqDiff, Nat.reduceMul, Int.reduceToNat, reduceIte, Int.reduceLE, Int.reduceNeg]; rfl) ?_
      refine runk_callE (D := [q]) rfl rfl rfl rfl rfl (fun i hi => by simp at hi; subst hi; exact nkq) (by simp) (cvs_cons cv_refl (cvs_cons cv_refl cvs_nil)) hw ?_
      simp only [killL, putS]
      refine runk_exec (by simp only [exa, beq_self_eq_true, ByteArray.size, Nat.reduceAdd, Nat.reduceLeDiff, Nat.reduceEqDiff, Nat.reduceMul, Int.reduceToNat, reduceIte, Int.reduceLE, Int.reduceNeg]; rfl) ?_
      refine ⟨by simp, by rfl, by rfl, mle_refl' ?_⟩
      simp [txtB, listE, List.append_assoc]
end V
end Go.Proofs.YtbmbmcdaabhgnaaDoor
end
section
namespace Go.Proofs.YtbmbmcdaabhgnaaDoor
namespace V
open Go.RowKit
section
variable {P : Go.Program} {T : Tab} {base : Nat} {ops : Array Oper} (hT : T.Ok P) {R : Ref} {w : World} {n : Nat} {ds : List Deferred} {l n' : Nat}
include hT
theorem plain_round (hd : ∀ o ∈ ops, ∀ d, o.dst = some d → d < n) (hnd : noDefer ops = true) {Q : Exit → Act → World → Prop} {st' : St} (hQ : ∀ a w, SR R n ds st' a w → Q .normal a w) :
    ∀ (L : List Nat) (st : St) (a : Act) (w : World), Chain P T R.keep base ops L st st' → SR R n ds st a w → wpOpsIn (Fence.wide.inRound l) n' P ops Q L a w
  | [], st, a, w, h, hr => by cases h; exact hQ a w hr
  | i :: L, st, a, w, h, hr => by
    cases h with
    | @cons _ o _ _ st1 _ hi h1 t =>
      unfold wpOpsIn
      simp only [hi]
      have hgo := h1.snd hT hr (hd o (Array.mem_of_getElem? hi)) (K := wpOpsIn (Fence.wide.inRound l) n' P ops Q L) (Q := Q) (fun a' w' hr' => plain_round hd hnd hQ L st1 a' w' t hr')
      split
      · rename_i hw; rw [if_pos hw] at hgo; exact oper_round (noDefer_spec hnd hi) hgo
      · rename_i hw; rw [if_neg hw] at hgo; exact ⟨fun _ _ => trivial, hgo⟩
end
def WI (l n' : Nat) (P : Go.Program) (R : Ref) (n : Nat) (ds : List Deferred) (st : St) (c : Code) (K : Exit → St → Prop) : Prop :=
  ∀ a w, SR R n ds st a w → c.wpIn (Fence.wide.inRound l) n' P (fun e a' w' => ∃ st', K e st' ∧ SR R n ds st' a' w') a w
section
variable {l n' : Nat} {P : Go.Program} {T : Tab} {R : Ref} {n : Nat} {ds : List Deferred} {st : St} {K : Exit → St → Prop}
theorem WI.mono {c : Code} {K' : Exit → St → Prop} (h : WI l n' P R n ds st c K) (hk : ∀ e st', K e st' → K' e st') : WI l n' P R n ds st c K' :=
  fun a w hr => wpIn_mono (h a w hr) fun e _ _ ⟨st', h1, h2⟩ => ⟨st', hk e st' h1, h2⟩
theorem WI.region (hT : T.Ok P) (base : Nat) {id : Nat} {ops : Array Oper} {st' : St} (hd : dstOk n ops = true) (hnd : noDefer ops = true) (h : RunL P T R.keep base ops ops.toList st st') (hk : K .normal st') : WI l n' P R n ds st (.region id ops false) K := fun a w hr =>
  wpIn_region (plain_round hT (dstOk_spec hd) hnd (fun a w hr' => ⟨st', hk, hr'⟩) _ st a w (by rw [range_range']; have := h.chain (k := 0) (by simp); simpa using this) hr)
theorem WI.regionD (hT : T.Ok P) (base : Nat) {id : Nat} {ops : Array Oper} {st' : St} (hm : P.follows .mixedOrders = true) (hok : okRegion T ops = true) (hd : dstOk n ops = true) (hnd : noDefer ops = true) (h : RunL P T R.keep base ops ops.toList st st') (hk : K .normal st') : WI l n' P R n ds st (.region id ops true) K := fun a w hr => by
  refine wpIn_mono (Q := fun e a w => e = .normal ∧ SR R n ds st' a w) (region_round (fun ⟨_, _, h, _⟩ => by cases h) hm hnd (any_snd hT hok (dstOk_spec hd) (fun a w hr' => ⟨rfl, hr'⟩) _ _ (List.range ops.size) st a _ (by simp) (by simp) (List.pairwise_lt_range) (fun i => ?_) (fun k o ho hl => ?_) ?_ (by rw [range_range']; have := h.chain (k := 0) (by simp); simpa using this))) fun e a w h => ⟨st', h.1 ▸ hk, h.2⟩
  · rw [List.mem_range]
    refine ⟨fun hi => ⟨hi, ?_⟩, fun hi => hi.1⟩
    simp [hi]
  · exfalso
    have hk := (Array.getElem?_eq_some_iff.1 ho).1
    simp [hk] at hl
  · obtain ⟨⟨B, I, hmr, hx0, hkp, hs⟩, h2, h3, hnn, h4, h5⟩ := hr
    have hE : Ext w w.drew I I := ⟨fun _ _ k => k, fun _ _ _ => rfl⟩
    exact ⟨⟨B, I, hmr.call (Below.refl _ _).drew, hx0.trans hE, hkp, fun t => (hs t).mono hE fun _ _ => rfl⟩, h2, h3, hnn, h4, h5⟩
theorem WI.seq {x y : Code} (h : WI l n' P R n ds st x (thenK (fun st' => WI l n' P R n ds st' y K) K)) : WI l n' P R n ds st (.seq x y) K := fun a w hr =>
  wpIn_seq (wpIn_mono (h a w hr) fun e a' w' ⟨st', h1, h2⟩ => by
    cases e with
    | normal => exact h1 a' w' h2
    | _ => exact ⟨st', h1, h2⟩)
theorem WI.cond {c : Operand} {x y : Code} {b : Bool} (hc : ev st.s c = .c (.bool b)) (ht : b = true → WI l n' P R n ds st x K) (hf : b = false → WI l n' P R n ds st y K) : WI l n' P R n ds st (.cond c x y) K := fun a w hr => by
  obtain ⟨B, I, hm, -, -, hs⟩ := hr.ex
  have := ev_rv hs c
  rw [hc] at this
  exact wpIn_cond_split (RC.toBool this) (fun e => ht e a w hr) (fun e => hf e a w hr)
theorem WI.block {id : Nat} {c : Code} (h : WI l n' P R n ds st c (blockK id K)) : WI l n' P R n ds st (.block id c) K := fun a w hr =>
  wpIn_block (wpIn_mono (h a w hr) fun e a' w' ⟨st', h1, h2⟩ => by
    cases e with
    | exit j =>
      simp only [blockK, Exit.inBlock] at h1 ⊢
      split
      · rename_i e; rw [if_pos e] at h1; exact ⟨st', h1, h2⟩
      · rename_i e; rw [if_neg e] at h1; exact ⟨st', h1, h2⟩
    | _ => exact ⟨st', h1, h2⟩)
theorem WI.exit {id : Nat} (h : K (.exit id) st) : WI l n' P R n ds st (.exit id) K := fun _ _ hr => wpIn_exit ⟨st, h, hr⟩
theorem WI.ret (h : K .ret st) : WI l n' P R n ds st .ret K := fun _ _ hr => wpIn_ret ⟨st, h, hr⟩
theorem WI.skip (h : K .normal st) : WI l n' P R n ds st .skip K := fun _ _ hr => wpIn_skip ⟨st, h, hr⟩
theorem WI.weaken {st' : St} {c : Code} (hl : Le R.keep st st') (h : WI l n' P R n ds st' c K) : WI l n' P R n ds st c K := fun a w hr => h a w (hr.le hl)
theorem WI.loop {ι : Type} {c : Code} (mk : ι → St) (Inv : ι → Prop) (μ : ι → Nat) (i0 : ι) (hl : Le R.keep st (mk i0)) (h0 : Inv i0)
    (hround : ∀ i, Inv i → WI l n' P R n ds (mk i) c (thenK (fun st' => ∃ i', Inv i' ∧ μ i' < μ i ∧ Le R.keep st' (mk i')) K)) : WI l n' P R n ds st (.loop c) K := by
  refine WI.weaken hl ?_
  intro a w hr
  refine wpIn_loop_ghost (fun k a w => ∃ i, Inv i ∧ μ i = k ∧ SR R n ds (mk i) a w) (μ i0) ⟨i0, h0, rfl, hr⟩ ?_
  rintro k a w ⟨i, hi, rfl, hr⟩
  refine wpIn_mono (hround i hi a w hr) ?_
  rintro e a' w' ⟨st', h1, h2⟩
  cases e with
  | normal =>
    obtain ⟨i', hi', hlt, hle⟩ := h1
    exact ⟨μ i', hlt, i', hi', rfl, h2.le hle⟩
  | _ => exact ⟨st', h1, h2⟩
theorem WI.regionK (hT : T.Ok P) (base : Nat) {id : Nat} {ops : Array Oper} (hd : dstOk n ops = true) (hnd : noDefer ops = true) (h : RunK P T R.keep base ops ops.toList st (K .normal)) : WI l n' P R n ds st (.region id ops false) K :=
  let ⟨_, h1, h2⟩ := h
  WI.region hT base hd hnd h1 h2
theorem WI.regionDK (hT : T.Ok P) (base : Nat) {id : Nat} {ops : Array Oper} (hm : P.follows .mixedOrders = true) (hok : okRegion T ops = true) (hd : dstOk n ops = true) (hnd : noDefer ops = true) (h : RunK P T R.keep base ops ops.toList st (K .normal)) : WI l n' P R n ds st (.region id ops true) K :=
  let ⟨_, h1, h2⟩ := h
  WI.regionD hT base hm hok hd hnd h1 h2
end
end V
end Go.Proofs.YtbmbmcdaabhgnaaDoor
end
section
set_option linter.unusedVariables false
set_option linter.unusedSimpArgs false
namespace Go.Proofs.YtbmbmcdaabhgnaaDoor
namespace V
open Go.RowKit
def Runs (P : Go.Program) (T : Tab) (kp : Nat → Prop) (base : Nat) (ops : Array Oper) (K : St → Prop) : Nat → Array Bool → St → Prop
  | 0, listed, st => Region.ready .any ops listed = [] ∧ K st
  | f + 1, listed, st => (Region.ready .any ops listed = [] → K st) ∧ ∀ i ∈ Region.ready .any ops listed, ∀ o, ops[i]? = some o → ∃ st1, HS P T kp base ops o st st1 ∧ Runs P T kp base ops K f (listed.setIfInBounds i true) st1
section
variable {P : Go.Program} {T : Tab} (hT : T.Ok P) {R : Ref} {w : World} {n base : Nat} {ds : List Deferred} {ops : Array Oper}
include hT in
end
section
variable {P : Go.Program} {T : Tab} {kp : Nat → Prop} {base f : Nat} {ops : Array Oper} {K : St → Prop} {listed : Array Bool} {st st1 st2 : St}
end
section
variable {l n' : Nat} {P : Go.Program} {T : Tab} {R : Ref} {n : Nat} {ds : List Deferred} {st : St} {K : Exit → St → Prop}
end
end V
end Go.Proofs.YtbmbmcdaabhgnaaDoor
end
section
set_option linter.unusedVariables false
set_option linter.unusedSimpArgs false
namespace Go.Proofs.YtbmbmcdaabhgnaaDoor
namespace V
open Go.RowKit
section
variable {P : Go.Program} {T : Tab} {kp : Nat → Prop} {base : Nat} {ops : Array Oper} {K : St → Prop}
def RunsW (P : Go.Program) (T : Tab) (kp : Nat → Prop) (base : Nat) (ops : Array Oper) (K : St → Prop) (f : Nat) (listed : Array Bool) (st : St) : Prop := listed.size = ops.size → ClosedL ops listed → WF st → Runs P T kp base ops K f listed st
theorem runs_mono {K' : St → Prop} (hk : ∀ st, K st → K' st) : ∀ {f : Nat} {listed : Array Bool} {st : St}, Runs P T kp base ops K f listed st → Runs P T kp base ops K' f listed st
  | 0, _, _, h => ⟨h.1, hk _ h.2⟩
  | _ + 1, _, _, h => ⟨fun e => hk _ (h.1 e), fun i hi o ho => let ⟨st1, h1, h2⟩ := h.2 i hi o ho; ⟨st1, h1, runs_mono hk h2⟩⟩
theorem RunsW.mono {K' : St → Prop} (hk : ∀ st, K st → K' st) {f : Nat} {listed : Array Bool} {st : St} (h : RunsW P T kp base ops K f listed st) : RunsW P T kp base ops K' f listed st := fun a b c => runs_mono hk (h a b c)
end
section
variable {l n' : Nat} {P : Go.Program} {T : Tab} {R : Ref} {n : Nat} {ds : List Deferred} {st : St} {K : Exit → St → Prop}
end
end V
end Go.Proofs.YtbmbmcdaabhgnaaDoor
end
section
set_option linter.unusedVariables false
set_option linter.unusedSimpArgs false
namespace Go.Proofs.YtbmbmcdaabhgnaaDoor
namespace V
open Go.RowKit
structure XS (P : Go.Program) (T : Tab) (kp : Nat → Prop) (ops : Array Oper) (o : Oper) (st : St) (ch : List PanicEntry) (st' : St) : Prop where
  run : ∀ (R : Ref) (n : Nat) (ds : List Deferred) (a : Act) (w : World) (K : Act → World → Prop) (Q : Exit → Act → World → Prop), R.keep = kp → SR R n ds st a w → (∀ a' w', SR R n ds st' a' w' → Q (.panic ch) a' w') →
    Region.wanted o (yielded ops a.tmps) = true ∧ o.wp P a w K Q
section
variable {P : Go.Program} {T : Tab} {kp : Nat → Prop} {ops : Array Oper}
end
section
variable {P : Go.Program} {T : Tab} {kp : Nat → Prop} {base : Nat} {ops : Array Oper}
variable (hT : T.Ok P) {R : Ref} {n : Nat} {ds : List Deferred}
include hT
omit hT in
theorem runl_chain : ∀ {l : List Oper} {k : Nat} {st st' : St}, (∀ j x, l[j]? = some x → ops[k + j]? = some x) → RunL P T kp base ops l st st' → Chain P T kp base ops (List.range' k l.length) st st'
  | [], _, _, _, _, h => by cases h; exact .nil _
  | o :: l, k, _, _, hl, h => by
    cases h with
    | cons h t =>
      refine .cons (by simpa using hl 0 o rfl) h (runl_chain (fun j x hx => ?_) t)
      have := hl (j + 1) x (by simpa using hx)
      rwa [show k + 1 + j = k + (j + 1) by omega]
end
section
variable {P : Go.Program} {T : Tab} (hT : T.Ok P) {R : Ref} {n base : Nat} {ds : List Deferred} {ops : Array Oper} {ch : List PanicEntry}
include hT in
include hT in
end
section
variable {P : Go.Program} {T : Tab} {kp : Nat → Prop} {base f : Nat} {ops : Array Oper} {ch : List PanicEntry} {K Kp : St → Prop} {listed : Array Bool} {st : St}
end
end V
end Go.Proofs.YtbmbmcdaabhgnaaDoor
end
section
set_option linter.unusedVariables false
set_option linter.unusedSimpArgs false
namespace Go.Proofs.YtbmbmcdaabhgnaaDoor
namespace V
open Go.RowKit
section
variable {P : Go.Program} {T : Tab} {base : Nat} {ops : Array Oper} (hT : T.Ok P) {R : Ref} {n : Nat} {ds : List Deferred}
include hT
theorem chain_snd (hd : ∀ o ∈ ops, ∀ d, o.dst = some d → d < n) {Q : Exit → Act → World → Prop} {st1 : St} {l2 : List Nat} (hQ : ∀ a w, SR R n ds st1 a w → wpOps P ops Q l2 a w) :
    ∀ (l : List Nat) (st : St) (a : Act) (w : World), Chain P T R.keep base ops l st st1 → SR R n ds st a w → wpOps P ops Q (l ++ l2) a w
  | [], st, a, w, h, hr => by
    cases h
    exact hQ a w hr
  | j :: l, st, a, w, h, hr => by
    cases h with
    | @cons _ o' _ _ st1' _ hi h1 t =>
      rw [List.cons_append, wpOps_cons]
      unfold wpOp
      rw [hi]
      have hgo := h1.snd hT hr (hd o' (Array.mem_of_getElem? hi)) (K := wpOps P ops Q (l ++ l2)) (Q := Q) (fun a' w' hr' => chain_snd hd hQ l st1' a' w' t hr')
      dsimp only
      split
      · rename_i hw; rw [if_pos hw] at hgo; exact .inl hgo
      · rename_i hw; rw [if_neg hw] at hgo; exact hgo
def dfr (s : Nat → A) (g : FuncId) (v1 v2 : Value) (j : Nat) (z : C) : Nat → A :=
  upd (upd (upd s DID (.defs ({ target := .fn (.func g) #[], args := #[v1, v2] } :: dfs (s DID)))) (DID + 1) (.pinP v1 j 0)) (DID + 2) (.pinC v2 z)
omit hT in
theorem dfr_DID {s : Nat → A} {g : FuncId} {v1 v2 : Value} {j : Nat} {z : C} : dfr s g v1 v2 j z DID = .defs ({ target := .fn (.func g) #[], args := #[v1, v2] } :: dfs (s DID)) := by
  unfold dfr
  rw [upd_ne _ _ (by decide), upd_ne _ _ (by decide), upd_same]
theorem W.deferTwo {st st1 : St} {K : Exit → St → Prop} {id : Nat} {l1 : List Oper} {o : Oper} {c : Call} {g : FuncId} {x y : Operand} {j : Nat} {z : C} (base : Nat) (hd : dstOk n ops = true) (hops : ops.toList = l1 ++ [o]) (h1 : exec T base ops l1 st = some st1) (hw : wantA ops o st1.s = some true) (hop : o.op = .defer c) (hc : c.callee = .value (.func g)) (ha : c.args = #[x, y]) (hdst : o.dst = none)
    (hx : ev st1.s x = .ptr j 0) (hj : (st1.m j).isSome = true) (hy : ev st1.s y = .c z) (h : ∀ v1 v2, K .normal ⟨dfr st1.s g v1 v2 j z, st1.m⟩) : W P R n ds st (.region id ops false) K := fun a w hr => by
  refine wp_region ?_
  have hsz : ops.size = l1.length + 1 := by rw [← Array.length_toList, hops]; simp
  have hrg : List.range ops.size = List.range' 0 l1.length ++ [l1.length] := by rw [hsz, List.range_succ, List.range_eq_range']
  have hi : ops[l1.length]? = some o := by rw [← Array.getElem?_toList, hops]; simp
  rw [hrg]
  refine chain_snd hT (base := base) (dstOk_spec hd) ?_ _ st a w (runl_chain (k := 0) (fun k x hx => ?_) (exec_run h1)) hr
  · clear hr a w
    intro a w hr
    obtain ⟨B, I, hm, hx0, hkp, hs⟩ := hr.ex
    rw [wpOps_cons]
    unfold wpOp
    have hwt := want_snd hs hw
    rw [hi]
    dsimp only
    rw [if_pos hwt]
    refine .inl ?_
    unfold Oper.wp Oper.upon
    have hrun : (execOp a.eval o).run P w = .ok (.defer { target := .fn (.func g) #[], args := #[a.eval x, a.eval y] }) w := by
      simp only [execOp, hop, resolve, hc, ha, Act.eval, Deferred.ofValue, Sem.run_bind, Sem.run_pure, Result.andThen_ok]
      simp [Act.eval]
    rw [hrun]
    have hv := ev_rv hs x
    rw [hx] at hv
    obtain ⟨b, hB, hv⟩ := hv
    have hv2 := ev_rv hs y
    rw [hy] at hv2
    have hput : ({ a with defers := { target := .fn (.func g) #[], args := #[a.eval x, a.eval y] } :: a.defers } : Act).put o.dst undef = { a with defers := { target := .fn (.func g) #[], args := #[a.eval x, a.eval y] } :: a.defers } := by rw [hdst]; rfl
    show wpOps P ops _ [] _ _
    rw [hput]
    refine ⟨_, h (a.eval x) (a.eval y), ⟨B, I, hm, hx0, hkp, fun t => ?_⟩, fun t i hi => ?_, hr.size, hr.nn, ?_, hr.kept⟩
    · show RV B w I (dfr st1.s g (a.eval x) (a.eval y) j z t) (a.tmps.getD t undef)
      unfold dfr
      by_cases e3 : t = DID + 2
      · subst e3; rw [upd_same]; exact hv2
      rw [upd_ne _ _ e3]
      by_cases e : t = DID + 1
      · subst e; rw [upd_same]; exact ⟨b, hB, hv⟩
      · rw [upd_ne _ _ e]
        by_cases e2 : t = DID
        · subst e2; rw [upd_same]; trivial
        · rw [upd_ne _ _ e2]; exact hs t
    · have hi : i ∈ (dfr st1.s g (a.eval x) (a.eval y) j z t).ids := hi
      unfold dfr at hi
      by_cases e3 : t = DID + 2
      · subst e3; rw [upd_same] at hi; simp [A.ids] at hi
      rw [upd_ne _ _ e3] at hi
      by_cases e : t = DID + 1
      · subst e
        rw [upd_same] at hi
        simp [A.ids] at hi; subst hi
        exact hj
      · rw [upd_ne _ _ e] at hi
        by_cases e2 : t = DID
        · subst e2; rw [upd_same] at hi; simp [A.ids] at hi
        · rw [upd_ne _ _ e2] at hi; exact hr.ids t i hi
    · show _ :: a.defers = dfs (dfr st1.s g (a.eval x) (a.eval y) j z DID) ++ ds
      rw [dfr_DID, hr.defs]; rfl
  · rw [Nat.zero_add, ← Array.getElem?_toList, hops, List.getElem?_append_left (List.getElem?_eq_some_iff.1 hx).1]
    exact hx
theorem W.deferAt {st st1 : St} {K : Exit → St → Prop} {id : Nat} {o : Oper} {c : Call} {g : FuncId} {x y : Operand} {j : Nat} {z : C} (base i : Nat) (hd : dstOk n ops = true) (hsz : ops.size = i + 1) (ho : ops[i]? = some o) (h1 : exec T base ops (ops.toList.take i) st = some st1) (hw : wantA ops o st1.s = some true) (hop : o.op = .defer c) (hc : c.callee = .value (.func g)) (ha : c.args = #[x, y]) (hdst : o.dst = none)
    (hx : ev st1.s x = .ptr j 0) (hj : (st1.m j).isSome = true) (hy : ev st1.s y = .c z) (h : ∀ v1 v2, K .normal ⟨dfr st1.s g v1 v2 j z, st1.m⟩) : W P R n ds st (.region id ops false) K := by
  refine W.deferTwo hT base hd (l1 := ops.toList.take i) (o := o) ?_ h1 hw hop hc ha hdst hx hj hy h
  have hl : ops.toList.length = i + 1 := by rw [Array.length_toList]; exact hsz
  have h2 : ops.toList.drop i = [o] := by
    rw [← Array.getElem?_toList] at ho
    obtain ⟨hj, rfl⟩ := List.getElem?_eq_some_iff.1 ho
    rw [List.drop_eq_getElem_cons hj, List.drop_eq_nil_of_le (by omega)]
  rw [← h2, List.take_append_drop]
omit hT in
theorem dfr_lt {s : Nat → A} {g : FuncId} {v1 v2 : Value} {j : Nat} {z : C} {i : Nat} (h : i < DID) : dfr s g v1 v2 j z i = s i := by
  unfold dfr
  rw [upd_ne _ _ (Nat.ne_of_lt (Nat.lt_succ_of_lt (Nat.lt_succ_of_lt h))), upd_ne _ _ (Nat.ne_of_lt (Nat.lt_succ_of_lt h)), upd_ne _ _ (Nat.ne_of_lt h)]
omit hT in
theorem dfr_1 {s : Nat → A} {g : FuncId} {v1 v2 : Value} {j : Nat} {z : C} : dfr s g v1 v2 j z (DID + 1) = .pinP v1 j 0 := by
  unfold dfr
  rw [upd_ne _ _ (by decide), upd_same]
omit hT in
theorem dfr_2 {s : Nat → A} {g : FuncId} {v1 v2 : Value} {j : Nat} {z : C} : dfr s g v1 v2 j z (DID + 2) = .pinC v2 z := by
  unfold dfr
  rw [upd_same]
end
theorem ok_effT {P : Go.Program} {T : Tab} (hT : T.Ok P) {f : FuncId} {fn : Func} {c : Code} {args : List A} {M : Mem} (D : List Nat) {M' : Mem} {g : FuncId} {j : Nat} {z : C} (hinv : ∀ (v1 v2 : Value) (w : World), (invoke (.fn (.func g) #[]) #[v1, v2]).run P w = .ok (.enter g #[v1, v2]) w) (hf : P.funcs[f]? = some fn) (hn : (fn.name == "runtime.NumGoroutine") = false) (hb : fn.body = some c) (hl : fn.results.toList = [])
    (hle : decide (args.length ≤ fn.ntmps ∧ fn.ntmps ≤ DID) = true) (hdf : args.all (fun a => !(match a with | .defs _ => true | _ => false)) = true) (hids : ∀ a ∈ args, ∀ j ∈ a.ids, (M j).isSome = true) (hsub : ∀ j, (M j).isSome = true → (M' j).isSome = true) (hwm : WFm M → WFm M')
    (hW : WFm M → ∀ R : Ref, R.keep = (fun j => (M j).isSome = true ∧ j ∉ D) → W P R fn.ntmps [] ⟨entry args, M⟩ c (fun e st => (e = .normal ∨ e = .ret) ∧
      ((dfs (st.s DID) = [] ∧ MLe st.m M') ∨
       ∃ v1 v2 M1, dfs (st.s DID) = [{ target := .fn (.func g) #[], args := #[v1, v2] }] ∧ st.s (DID + 1) = .pinP v1 j 0 ∧ st.s (DID + 2) = .pinC v2 z ∧ MLe st.m M1 ∧ WFm M1 ∧ (∀ i, (M i).isSome = true → (M1 i).isSome = true) ∧ CallDf P g [.ptr j 0, .c z] M1 D M'))) : CallE P f args M D (.tup []) M' := by
  refine ⟨enters_of hf hn hb, fun j hj => by simp [A.ids] at hj, hsub, hwm, ?_⟩
  intro w0 I0 B I w vals hm hv
  have hWF : WFm M := hm.live
  have hd2 : ∀ a ∈ args, ∀ l, a ≠ .defs l := fun a ha l e => by have := List.all_eq_true.1 hdf a ha; subst e; simp at this
  obtain ⟨hl1, hl2⟩ := of_decide_eq_true hle
  have hlen := rvl_len hv
  refine calls_of_wp_defers hf hb ?_
  have h0 : SR ⟨w0, I0, w, I, B, fun j => (M j).isSome = true ∧ j ∉ D⟩ fn.ntmps [] ⟨entry args, M⟩ { tmps := vals.toArray ++ Array.replicate (fn.ntmps - vals.toArray.size) undef, defers := [] } w := by
    refine ⟨⟨B, I, hm, Ext.refl _ _, fun _ _ => rfl, rvl_entry hv⟩, fun t i hi => ?_, by simp [hlen]; omega, hl2, by rw [show dfs ((⟨entry args, M⟩ : St).s DID) = [] from entry_dfs (fun a ha l e => by subst e; exact hd2 _ ha l rfl)]; rfl, fun i hi => hi.1⟩
    simp only [entry, List.getD_eq_getElem?_getD] at hi
    cases hx : args[t]? with
    | none => rw [hx] at hi; simp [A.ids] at hi
    | some a => rw [hx] at hi; exact hids a (List.mem_of_getElem? hx) i hi
  refine wp_mono (hW hWF _ rfl _ w h0) ?_
  rintro e a' w' ⟨st', ⟨he, hres⟩, ⟨⟨B', I', hm', hx', hkp', hs'⟩, -, -, -, hds, -⟩⟩
  have hand : ∀ (w2 : World) (B2 : Nat → Value) (I2 : Nat → Nat → Prop), MR w0 I0 B2 I2 M' w2 → Ext w w2 I I2 → (∀ j, (M j).isSome = true → j ∉ D → B2 j = B j) →
      ∃ v, (results fn a'.tmps).run P w2 = .ok v w2 ∧ ∃ v' B' I', Ending.returned v = .returned v' ∧ MR w0 I0 B' I' M' w2 ∧ Ext w w2 I I' ∧ (∀ j, (M j).isSome = true → j ∉ D → B' j = B j) ∧ RV B' w2 I' (.tup []) v' := by
    intro w2 B2 I2 hm2 hx2 hk2
    obtain ⟨v, h1, h2⟩ := resE_snd (st := ⟨fun _ => .top, M'⟩) (r := .tup []) hT hm2 (fun t => by trivial) hl rfl
    exact ⟨v, h1, v, B2, I2, rfl, hm2, hx2, hk2, h2⟩
  rcases hres with ⟨hdn, hle2⟩ | ⟨v1, v2, M1, hdn, hp1, hp2, hle2, hw1, hsub1, -, hsm, hwm1, hcall⟩
  · rw [hdn] at hds
    have hds : a'.defers = [] := hds
    have key := hand w' B' I' (mle_mr hm' hle2 (hwm hWF)) hx' (fun j hj hd => hkp' j ⟨hj, hd⟩)
    rcases he with rfl | rfl <;> (show Leaves _ _ _ _ _ _ _; rw [hds]; exact key)
  · rw [hdn] at hds
    have hds : a'.defers = [{ target := .fn (.func g) #[], args := #[v1, v2] }] := hds
    have hm1 := mle_mr hm' hle2 hw1
    have q1 := hs' (DID + 1)
    rw [hp1] at q1
    obtain ⟨b0, k1, k2⟩ := q1
    have q2 := hs' (DID + 2)
    rw [hp2] at q2
    have key2 : Leaves P fn a'.tmps (fun e w' => ∃ v B' I', e = .returned v ∧ MR w0 I0 B' I' M' w' ∧ Ext w w' I I' ∧ (∀ j, (M j).isSome = true → j ∉ D → B' j = B j) ∧ RV B' w' I' (.tup []) v) a'.defers .returning w' := by
      rw [hds]
      refine leaves_cons (by simp) (hinv v1 v2 w') (CallsD.mono (hcall w0 I0 B' I' w' [v1, v2] .returning hm1 ⟨⟨b0, k1, k2⟩, q2, trivial⟩) ?_)
      rintro e u' w'' ⟨rfl, v, B2, I2, rfl, hm2, hx2, hk2⟩
      exact hand w'' B2 I2 hm2 (hx'.trans hx2) (fun j hj hd => (hk2 j (hsub1 j hj) hd).trans (hkp' j ⟨hj, hd⟩))
    rcases he with rfl | rfl <;> exact key2
end V
end Go.Proofs.YtbmbmcdaabhgnaaDoor
end
section
namespace Go.Proofs.YtbmbmcdaabhgnaaDoor
namespace V
open Go.RowKit
theorem W.seqJoin {P : Go.Program} {R : Ref} {n : Nat} {ds : List Deferred} {st : St} {x y : Code} {K : Exit → St → Prop} {ι : Type} (mk : ι → St) (Q : ι → Prop)
    (h : W P R n ds st x (fun e st' => e = .normal ∧ ∀ c K', (∀ i, Q i → W P R n ds (mk i) c K') → W P R n ds st' c K')) (k : ∀ i, Q i → W P R n ds (mk i) y K) : W P R n ds st (.seq x y) K := by
  refine W.seq ?_
  refine W.mono h ?_
  rintro e st' ⟨rfl, h2⟩
  exact h2 y K k
theorem W.join {P : Go.Program} {R : Ref} {n : Nat} {ds : List Deferred} {st : St} {x y : Code} {K : Exit → St → Prop} {ι : Type} (mk : ι → St) (Q : ι → Prop)
    (h : W P R n ds st x (fun e st' => e = .normal ∧ ∀ c K', (∀ i, Q i → W P R n ds (mk i) c K') → W P R n ds st' c K')) (k : ∀ i, Q i → W P R n ds (mk i) y K) : W P R n ds st x (thenK (fun st' => W P R n ds st' y K) K) := by
  refine W.mono h ?_
  rintro e st' ⟨rfl, h2⟩
  exact h2 y K k
end V
end Go.Proofs.YtbmbmcdaabhgnaaDoor
end
