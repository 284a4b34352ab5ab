/- ShowChecks: show.Check takes just the trees that the reference's Check takes, and the empty statement is no tree. No condition. -/
import Derived.Test.YtbmbmcdaabhgnaaRows
import Derived.Test.YtbmbmcdaabhgnaaCheckR
import Derived.Test.YtbmbmcdaabhgnaaRead
import Derived.ProofKit
import Derived.OpenShut
import Derived.HandedShaped
import Derived.Shelf.Vars
import Derived.Deep.RegionWith
namespace Go.Proofs.Ytbmbmcdaabhgnaa
open Go.ChangeShapes Go.WideShapes Go.ChangeAt Go.RowKit
open Go.ChangeMaps (open_string shut_string)
set_option linter.unusedVariables false
theorem own : ownKnob Try.prog.godebug = none := by kernel_rfl
theorem laidOut : laidOutB Try.prog = true := by kernel_rfl


def oneStmt : Program := ⟨[], [⟨0, 0, ⟨#[]⟩, ⟨#[]⟩, [], [], []⟩]⟩
theorem rOneS {w : World} {b : Nat} (hc : cellsAt w b 0 [.int .i64 0, .int .i64 0, .string ⟨#[]⟩, .string ⟨#[]⟩, .slice none 0 0, .slice none 0 0, .slice none 0 0]) : RProgram 1 w (· < w.heap.size) (.agg #[.slice none 0 0, .slice (some ⟨b, 0, none⟩) 1 1]) oneStmt := by
  refine ⟨_, _, rfl, rsl_nil _ _ _ _, ⟨_, 1, 1, rfl, rfl, Nat.le_refl _, by unfold maxS; omega, fun i x h => ?_⟩⟩
  cases i with
  | succ i => simp [oneStmt] at h
  | zero =>
    simp [oneStmt] at h
    subst h
    exact ⟨b, 0, _, rfl, cell_lt hc.1, hc, _, _, _, rfl, by decide, by decide, by decide, by decide, rsl_nil _ _ _ _, rsl_nil _ _ _ _, rsl_nil _ _ _ _⟩

theorem check_one {W : World} {b : Nat} (hM : HasMax W) (hc : cellsAt W b 0 [.int .i64 0, .int .i64 0, .string ⟨#[]⟩, .string ⟨#[]⟩, .slice none 0 0, .slice none 0 0, .slice none 0 0]) :
    Calls Try.prog 8 #[.agg #[.slice none 0 0, .slice (some ⟨b, 0, none⟩) 1 1]] W fun e w' => e = .returned (.int .i64 30) ∧ Below W.heap.size W w' :=
  (check_any 1 W _ _ hM (rOneS hc)).mono fun e w' ⟨he, hb⟩ => ⟨by rw [he]; rfl, hb⟩
theorem check_in {W0 W : World} {d : Nat} {v : Value} {p : Program} (hM : HasMax W0) (hp : RProgram d W0 (· < W0.heap.size) v p) (hb : Hid (Below W0.heap.size W0 W)) :
    Calls Try.prog 8 #[v] W fun e w' => e = .returned (.int .i64 (treeErr (checkB p))) ∧ Below W.heap.size W w' :=
  check_any d W _ _ (hM.keep hb.out) (hp.mono (fun _ h => Nat.lt_of_lt_of_le h hb.out.size) (fun b h => hb.out.block b h))
theorem refCheck_in {W0 W : World} {d : Nat} {v : Value} {p : Program} (hp : RProgram d W0 (· < W0.heap.size) v p) (hb : Hid (Below W0.heap.size W0 W)) :
    Calls Try.prog 9 #[v] W fun e w' => e = .returned (.int .i64 (treeErr (checkB p))) ∧ Below W.heap.size W w' :=
  refCheck_any d W _ _ (hp.mono (fun _ h => Nat.lt_of_lt_of_le h hb.out.size) (fun b h => hb.out.block b h))

set_option maxHeartbeats 2000000 in
theorem showChecks_walk (d : Nat) (w : World) (v : Value) (p : Program) (hM : HasMax w) (hp : RProgram d w (· < w.heap.size) v p) :
    Calls Try.prog 5 #[v] w fun e w' => e = .returned (.bool true) ∧ Below w.heap.size w w' := by
  have HP := Lib.hid hp
  have HM := Lib.hid hM
  obtain ⟨cv, mv, rfl, hC, hS⟩ := hp
  obtain ⟨ca, cn, ccap, rfl⟩ := RSl.shape hC
  obtain ⟨ma, mn, mcap, rfl⟩ := RSl.shape hS
  clear hC hS hM
  go_enter Try.func5, Try.ntmps5
  go_wp2
  go_region_with (first
    | (go_at_call 8
       (with_reducible refine (check_one ?_ ?_).mono ?_)
       · exact HM.out.keep (by go_grown)
       · simp [cellsAt]
       rintro e w1 ⟨rfl, hb1⟩
       have HB1 : Hid (Below w.heap.size w w1) := afterCall (by go_grown) hb1
       have k0 : w1.cell? ⟨w.heap.size, 0, none⟩ = some (.slice ca cn ccap) := next hb1 (by simp)
       have k1 : w1.cell? ⟨w.heap.size, 1, none⟩ = some (.slice ma mn mcap) := next hb1 (by simp)
       clear hb1)
    | (go_at_call 8
       (with_reducible refine (check_in HM.out HP.out (by assumption)).mono ?_)
       rintro e w2 ⟨rfl, hb2⟩
       have HB2 := nextB hb2 (by assumption)
       have k2 := next (o := 0) hb2 (by assumption)
       have k3 := next (o := 1) hb2 (by assumption)
       clear hb2)
    | (go_at_call 9
       (with_reducible refine (refCheck_in HP.out (by assumption)).mono ?_)
       rintro e w2 ⟨rfl, hb2⟩
       have HB2 := nextB hb2 (by assumption)
       have k2 := next (o := 0) hb2 (by assumption)
       have k3 := next (o := 1) hb2 (by assumption)
       clear hb2))
  all_goals (go_wp2; go_ret; exact ⟨rfl, HB2.out⟩)

set_option maxRecDepth 100000 in
theorem showChecks_lifted (os : Os) (started : os.Started) (H : Type) (enc : TypeId × Value → H) :
    ReturnsInHanded {} Try.checked os 5 .any (Rows.showChecksSpec.pre6 enc Try.prog Try.f5 Rows.showChecksRow.domain false) (Rows.showChecksSpec.post enc Try.prog Try.f5 false true false false) := by
  refine returnsInHanded_of_change_shaped (C := Try.checked) own started (by kernel_rfl) Try.func5
    (ChangeSpec.witness6 (enc := enc) (C := Try.checked) false ⟨#[], #[.agg #[.slice none 0 0, .slice none 0 0]], []⟩ 8 (by kernel_rfl) (by kernel_rfl) (by kernel_rfl) (by kernel_rfl)) ?_
  intro W base args ds gs before hval0 hW hcnd hsz0 hsh _
  have hval : ∀ (j : Nat) t v, Try.f5.params[j]? = some t → args[j]? = some v → Value.okWide Try.prog W .any base t v := hval0
  have hW' := hW
  obtain ⟨p, q, hA0, hV, rfl, hfz, hnd⟩ := hW
  have hA : DataW.TrodAll enc Try.prog W 0 (fun _ => true) true Try.f5.params.toList args.toList ds p := hA0
  have hsz : ∀ n ∈ DataW.weightsEach Try.prog (Try.f5.params.toList ++ Rows.showChecksSpec.plain.varTypes Try.prog) (ds ++ gs), n ≤ reachBytes := fun n hn => of_decide_eq_true (List.all_eq_true.1 hsz0 n hn)
  rw [Try.params5] at hA hval hsz
  clear hsz0
  obtain ⟨v0, vs0, d0, ds0, p0, q0, hargs, rfl, rfl, h0, r0⟩ := trodAll_cons hA
  obtain ⟨rfl, rfl, rfl⟩ := trodAll_nil r0
  obtain rfl : args = #[v0] := by cases args; simp_all
  obtain ⟨rfl, rfl⟩ := trodVars_none hV
  clear hA0 hval0
  simp only [List.append_nil] at hW'
  have k0 := h0
  have lt0 : ∀ x ∈ p0, x.block < W.heap.size := by obtain ⟨m, hm⟩ := k0; exact DataW.trod_lt m _ _ _ hm
  have fit0 : Fits Try.prog 25 d0 := fun n hn => hsz n (DataW.weights_mem_each (j := 0) rfl rfl n hn)
  have hM : HasMax W := cell_of_shapedOpen_int (zero := #[.int .i64 0]) (t := 3) hsh (of_decide_eq_true (by kernel_rfl)) (by kernel_rfl) rfl (by kernel_rfl) (by kernel_rfl) Try.underlying3
  obtain ⟨cs0, rfl, -⟩ := okWide_struct Try.underlying25 (hval 0 25 v0 rfl rfl)
  obtain ⟨e0, g0, w0⟩ := read_program fit0 h0 ⟨cs0, rfl⟩
  refine (showChecks_walk e0 W _ g0 hM w0).mono fun e W' ⟨he, bel⟩ => ?_
  subst he
  exact ⟨_, rfl, _, _, _, [], _, [], hW', trodAll_mk1 (shut_bool Try.underlying4 _), trodAll_cons_mk (Below.trod laidOut (by kernel_rfl) (of_decide_eq_true (by kernel_rfl)) k0 bel lt0) trodAll_mk0, rfl, bel.frame _, fun h => by cases h⟩

theorem showChecks_holds : Rows.ShowChecksSaid :=
  OpenClaim.holds_of_wide 5 Try.f5 rfl rfl rfl rfl rfl rfl rfl ⟨rfl, rfl, rfl, rfl, rfl⟩ rfl rfl rfl rfl rfl (by kernel_rfl) Try.func5 (by kernel_rfl)
    (of_decide_eq_true (by kernel_rfl)) (by unfold Func.isWrapper; first | (rw [if_pos (by decide +kernel)]; kernel_rfl) | (rw [if_neg (by decide +kernel)]; exact ⟨rfl, rfl⟩))
    (fun os started H enc _ => showChecks_lifted os started H enc)
#print axioms showChecks_holds
end Go.Proofs.Ytbmbmcdaabhgnaa
