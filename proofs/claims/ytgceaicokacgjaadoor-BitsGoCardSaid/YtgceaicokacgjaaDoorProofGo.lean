/- BitsGo: whatever is done to two sets, they answer, and are, just what the reference's sets are. No condition but the row's own: the library's table as its initialiser lays it, which the card ties. -/
import Derived.Test.YtgceaicokacgjaaDoorCards
import Derived.Test.YtgceaicokacgjaaDoorTie
import Derived.Test.YtgceaicokacgjaaDoorGo
import Derived.ProofKit
import Derived.OpenShut
import Derived.Deep.DeepHandedRow
import Derived.Lib.LaidTab
namespace Go.Proofs.YtgceaicokacgjaaDoor
open Go.ChangeShapes Go.WideShapes Go.ChangeAt Go.RowKit
open Go.ChangeMaps (open_string shut_string)
set_option linter.unusedVariables false
theorem own : ownKnob Tryd.prog.godebug = none := by kernel_rfl
theorem laidOut : laidOutB Tryd.prog = true := by kernel_rfl
theorem gTab : Tryd.prog.globalNamed "math/bits.deBruijn64tab" = some 0 := by kernel_rfl
theorem gTabType : (Tryd.prog.globals[0]?).map (·.type) = some 54 := by kernel_rfl
theorem cellsTab : Tryd.prog.cellsOf 54 = 64 := by kernel_rfl
theorem cellsByte : Tryd.prog.cellsOf 5 = 1 := by kernel_rfl
def tabZ : List Int := Lib.deBruijn64tab.map fun k : Nat => (k : Int)
theorem tabZ_get : ∀ j, j < 64 → tabZ.getD j 0 = ((Lib.deBruijn64tab.getD j 0 : Nat) : Int) := by decide +kernel
theorem table {W : World} (h : laidMetH Tryd.prog Rows.bitsGoRow.laid W) : TabIn W := fun j hj => by
  have h1 : Lib.TabIs Tryd.prog W "math/bits.deBruijn64tab" .u8 tabZ := Lib.tabIs_of_head (rest := []) (zs := tabZ) gTab gTabType Tryd.underlying54 Tryd.underlying5 cellsByte cellsTab h
  have h2 := h1.cell gTab j hj
  rw [tabZ_get j hj] at h2
  exact h2
noncomputable def laidWorld (os : Os) : World :=
  { World.holding Tryd.prog os ⟨#[], #[], []⟩ with heap := (World.holding Tryd.prog os ⟨#[], #[], []⟩).heap.modify 0 fun
      | .cells _ t frozen => .cells (Lib.deBruijn64tab.map fun k : Nat => Value.int .u8 (k : Int)).toArray t frozen
      | o => o }
section
variable {H : Type} {enc : TypeId × Value → H} {w : World} {held : Bool}
theorem fieldsOp : (Tryd.prog.underlying 41).map (fun d => match d with | .struct fs => fs.toList.map (fun f => (f.type, f.offset)) | _ => []) = some [(3, 0), (3, 1)] := by kernel_rfl
theorem c_op : Tryd.prog.cellsOf 41 = 2 := by kernel_rfl
theorem read_op {n : Nat} {cs : List Value} {y : DataW H × List MemPlace} (hfit : Fits Tryd.prog 41 y.1) (h : DataW.trod enc Tryd.prog w 0 (fun _ => true) held n 41 cs = some y) : ∃ x : Int × Int, ROp cs x := by
  obtain ⟨hl, m, _, hall⟩ := read_struct fieldsOp (by simp) hfit h
  rw [c_op] at hl
  obtain ⟨v0, v1, rfl⟩ := len2 hl
  obtain ⟨y0, h0, f0⟩ := hall (3, 0) (by simp)
  obtain ⟨y1, h1, f1⟩ := hall (3, 1) (by simp)
  rw [cellsOf_one _ c_int _ _ _ rfl] at h0 h1
  obtain ⟨s0, e0, -, l0⟩ := DataW.trod_int Tryd.underlying3 h0
  obtain ⟨s1, e1, -, l1⟩ := DataW.trod_int Tryd.underlying3 h1
  simp only [List.cons.injEq, and_true] at e0 e1
  subst e0 e1
  exact ⟨(s0, s1), rfl, l0, l1⟩
theorem read_ops {n : Nat} {cs : List Value} {y : DataW H × List MemPlace} (hfit : Fits Tryd.prog 34 y.1) (h : DataW.trod enc Tryd.prog w 0 (fun _ => true) held n 34 cs = some y) : ∃ v l, cs = [v] ∧ RSl 2 ROp w (· < w.heap.size) v l :=
  read_slice Tryd.underlying34 c_op (by decide) (of_decide_eq_true (by kernel_rfl)) hfit (fun _ _ _ _ h hf => read_op hf h) h
end

theorem bitsGo_met (os : Os) : laidMet Tryd.prog Rows.bitsGoRow.laid ((laidWorld os).forCall (fun _ _ => 0) ⟨#[], #[.int .i64 0, .int .i64 0, .slice none 0 0], []⟩).memory :=
  laidMet_of_run' 8 (by kernel_rfl) (by kernel_rfl)
theorem bitsGo_reads (os : Os) {H : Type} (enc : TypeId × Value → H) : ∃ places, DataW.whole enc Tryd.prog ((laidWorld os).forCall (fun _ _ => 0) ⟨#[], #[.int .i64 0, .int .i64 0, .slice none 0 0], []⟩).memory Tryd.f5.params.toList Rows.bitsGoSpec.vars false (#[.int .i64 0, .int .i64 0, .slice none 0 0] : Array Value).toList 8 = some ([.lit (.int .i64 0), .lit (.int .i64 0), .nil], [], places) :=
  ⟨[], by kernel_rfl⟩
set_option maxRecDepth 100000 in
theorem bitsGo_lifted (os : Os) (started : os.Started) (H : Type) (enc : TypeId × Value → H) (F : Stop.Interp) :
    ReturnsInHanded {} Tryd.checked os 5 .any ((OpenSpec.ofChange Rows.bitsGoSpec).preRow enc Tryd.prog Tryd.f5 Rows.bitsGoRow.domain false Rows.bitsGoRow.laid) (((OpenSpec.ofChange Rows.bitsGoSpec).at F).post enc Tryd.prog Tryd.f5 false true false false) := by
  obtain ⟨places, hx⟩ := bitsGo_reads os enc
  refine returnsInHanded_of_row (C := Tryd.checked) (s := OpenSpec.ofChange Rows.bitsGoSpec) own started (by kernel_rfl) Tryd.func5
    (witness_row_at (enc := enc) (C := Tryd.checked) false (laidWorld os) #[.int .i64 0, .int .i64 0, .slice none 0 0] rfl (by kernel_rfl) (by kernel_rfl) (by kernel_rfl)
      (OpenSpec.preRow_of_cond 8 hx (by kernel_rfl) (fun k hk => by cases hk) (by kernel_rfl) (bitsGo_met os))) ?_
  intro W base args ds gs before hval0 hW _ _ hsz0 hL hsh _
  have hval : ∀ (j : Nat) t v, Tryd.f5.params[j]? = some t → args[j]? = some v → Value.okWide Tryd.prog W .any base t v := hval0
  have hW' := hW
  obtain ⟨p, q, hA0, hV, rfl, hfz, hnd⟩ := hW
  have hA : DataW.TrodAll enc Tryd.prog W 0 (fun _ => true) true Tryd.f5.params.toList args.toList ds p := hA0
  have hsz : ∀ n ∈ DataW.weightsEach Tryd.prog (Tryd.f5.params.toList ++ Rows.bitsGoSpec.plain.varTypes Tryd.prog) (ds ++ gs), n ≤ reachBytes := fun n hn => of_decide_eq_true (List.all_eq_true.1 hsz0 n hn)
  rw [Tryd.params5] at hA hval hsz
  clear hsz0
  obtain ⟨v0, vs0, d0, ds0, p0, q0, hargs, rfl, rfl, h0, r0⟩ := trodAll_cons hA
  obtain ⟨v1, vs1, d1, ds1, p1, q1, rfl, rfl, rfl, h1, r1⟩ := trodAll_cons r0
  obtain ⟨v2, vs2, d2, ds2, p2, q2, rfl, rfl, rfl, h2, r2⟩ := trodAll_cons r1
  obtain ⟨rfl, rfl, rfl⟩ := trodAll_nil r2
  obtain rfl : args = #[v0, v1, v2] := by cases args; simp_all
  obtain ⟨rfl, rfl⟩ := trodVars_none hV
  clear hA0 hval0
  simp only [List.append_nil] at hW'
  have k0 := h0
  have lt0 : ∀ x ∈ p0, x.block < W.heap.size := by obtain ⟨m, hm⟩ := k0; exact DataW.trod_lt m _ _ _ hm
  have k1 := h1
  have lt1 : ∀ x ∈ p1, x.block < W.heap.size := by obtain ⟨m, hm⟩ := k1; exact DataW.trod_lt m _ _ _ hm
  have k2 := h2
  have lt2 : ∀ x ∈ p2, x.block < W.heap.size := by obtain ⟨m, hm⟩ := k2; exact DataW.trod_lt m _ _ _ hm
  have fit2 : Fits Tryd.prog 34 d2 := fun n hn => hsz n (DataW.weights_mem_each (j := 2) rfl rfl n hn)
  obtain ⟨z0, rfl⟩ := okWide_int Tryd.underlying3 (hval 0 3 v0 rfl rfl)
  obtain ⟨rn0, h0⟩ := h0
  obtain ⟨ra0, re0, wf0⟩ := read_int h0
  obtain rfl : ra0 = z0 := by simpa [Value.cells] using re0.symm
  obtain ⟨z1, rfl⟩ := okWide_int Tryd.underlying3 (hval 1 3 v1 rfl rfl)
  obtain ⟨rn1, h1⟩ := h1
  obtain ⟨ra1, re1, wf1⟩ := read_int h1
  obtain rfl : ra1 = z1 := by simpa [Value.cells] using re1.symm
  obtain ⟨sa2, sn2, sc2, rfl⟩ := okWide_slice Tryd.underlying34 (hval 2 34 v2 rfl rfl)
  obtain ⟨rn2, h2⟩ := h2
  obtain ⟨rv2, l2, re2, R2⟩ := read_ops fit2 h2
  obtain rfl : rv2 = _ := by simpa [Value.cells] using re2.symm
  refine (go_walk W _ _ _ l2 (table hL) wf0 wf1 R2).mono fun e W' ⟨he, bel⟩ => ?_
  subst he
  exact ⟨_, rfl, _, _, _, [], _, [], hW', trodAll_mk1 (shut_bool Tryd.underlying4 _), trodAll_cons_mk (Below.trod laidOut (by kernel_rfl) (of_decide_eq_true (by kernel_rfl)) k0 bel lt0) (trodAll_cons_mk (Below.trod laidOut (by kernel_rfl) (of_decide_eq_true (by kernel_rfl)) k1 bel lt1) (trodAll_cons_mk (Below.trod laidOut (by kernel_rfl) (of_decide_eq_true (by kernel_rfl)) k2 bel lt2) trodAll_mk0)), rfl, bel.frame _, fun h => by cases h⟩

theorem bitsGo_holds : Rows.BitsGoSaid :=
  OpenClaim.holds_of_cond 5 Tryd.f5 rfl rfl rfl rfl rfl rfl rfl ⟨rfl, rfl, rfl, rfl, rfl⟩ rfl rfl rfl rfl rfl (by kernel_rfl) Tryd.func5 (by kernel_rfl)
    (of_decide_eq_true (by kernel_rfl)) (by unfold Func.isWrapper; first | (rw [if_pos (by decide +kernel)]; kernel_rfl) | (rw [if_neg (by decide +kernel)]; exact ⟨rfl, rfl⟩))
    (fun os started H enc _ F => by rw [OpenClaim.pre_eq_preRow]; exact bitsGo_lifted os started H enc F)
theorem bitsGo_plain (f : FuncId) (fn : Func) (hf : Tryd.pinned.checked.prog.funcNamed "mordant/mordantlaw14.BitsGo" = some f) (hfn : Tryd.pinned.checked.prog.funcs[f]? = some fn) :
    false = Tryd.pinned.checked.prog.looks [] ∧ ∀ (j : Nat) t, fn.params[j]? = some t → Tryd.pinned.checked.prog.wantsStandIn t = false := by
  obtain rfl : f = 5 := Option.some.inj ((show Tryd.prog.funcNamed "mordant/mordantlaw14.BitsGo" = some 5 by kernel_rfl).symm.trans hf) |>.symm
  obtain rfl : fn = Tryd.f5 := (Option.some.inj (Tryd.func5.symm.trans hfn)).symm
  refine ⟨by kernel_rfl, fun j t ht => ?_⟩
  have hall : Tryd.f5.params.all (fun t => !Tryd.prog.wantsStandIn t) = true := by kernel_rfl
  have := Array.all_eq_true'.1 hall t (Array.mem_of_getElem? ht)
  have h2 : Tryd.prog.wantsStandIn t = false := by simpa using this
  exact h2
theorem bitsGo_card : Rows.BitsGoCardSaid :=
  Claim7.holds_tied_plain_at .later [] _ _ _ _ bitsGo_holds (fun _ h => by cases h) (by kernel_rfl) (fun _ h => by cases h) bitsGo_row_tie rfl ⟨rfl, rfl⟩ (by kernel_rfl) rfl bitsGo_plain (by kernel_rfl)
#print axioms bitsGo_card
end Go.Proofs.YtgceaicokacgjaaDoor
