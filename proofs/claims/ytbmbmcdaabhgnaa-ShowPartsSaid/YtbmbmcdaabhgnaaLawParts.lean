/- ShowParts: there is as much in a program as in its classes, each alone, and main. No condition. -/
import Derived.Test.YtbmbmcdaabhgnaaRows
import Derived.Test.YtbmbmcdaabhgnaaLawSizes
import Derived.Test.YtbmbmcdaabhgnaaRead
import Derived.ProofKit
import Derived.OpenShut
namespace Go.Proofs.Ytbmbmcdaabhgnaa
open Go.ChangeShapes Go.WideShapes Go.ChangeAt Go.RowKit
open Go.ChangeMaps (open_string shut_string)
set_option linter.unusedVariables false
theorem own : ownKnob Try.prog.godebug = none := by kernel_rfl
theorem laidOut : laidOutB Try.prog = true := by kernel_rfl

theorem rClass1 {w : World} {b d : Nat} {x : Class} {cs : List Value} (hc : cellsAt w b 0 cs) (hx : RClass d w (· < w.heap.size) cs x) : RProgram d w (· < w.heap.size) (.agg #[.slice (some ⟨b, 0, none⟩) 1 1, .slice none 0 0]) ⟨[x], []⟩ := by
  refine ⟨_, _, rfl, ⟨_, 1, 1, rfl, rfl, Nat.le_refl _, by unfold maxLen; omega, fun i y h => ?_⟩, rsl_nil _ _ _ _⟩
  cases i with
  | succ i => simp at h
  | zero =>
    simp at h
    subst h
    obtain ⟨fv, mv, rfl, hr⟩ := hx
    exact ⟨b, 0, _, rfl, cell_lt hc.1, hc, fv, mv, rfl, hr⟩

theorem sizeP_class (x : Class) : sizeP ⟨[x], []⟩ = 1 + x.fields.length + sizeMs x.methods := by simp [sizeP, sizeSs, sizeCs]
theorem sizeP_main (l : List Stmt) : sizeP ⟨[], l⟩ = sizeSs l := by simp [sizeP, sizeCs]

set_option maxHeartbeats 1000000 in
theorem showParts_walk (d : Nat) (w : World) (v : Value) (p : Program) (hp : RProgram d w (· < w.heap.size) v p) :
    Calls Try.prog 4 #[v] w fun e w' => e = .returned (.bool true) ∧ Below w.heap.size w w' := by
  have HP := Lib.hid hp
  obtain ⟨cv, mv, rfl, hC, hM⟩ := hp
  obtain ⟨ca, cn, ccap, rfl, hn, hcap, hmax, hel⟩ := hC
  obtain ⟨ma, mn, mcap, rfl⟩ := RSl.shape hM
  have H := Lib.hid hel
  have HN := Lib.hid hn
  have HM : Hid (∀ W, Hid (Below w.heap.size w W) → RProgram d W (· < W.heap.size) (.agg #[.slice none 0 0, .slice ma mn mcap]) ⟨[], p.main⟩) := fun W hb =>
    ⟨_, _, rfl, rsl_nil _ _ _ _, RStmts.mono (fun _ h => Nat.lt_of_lt_of_le h hb.out.size) (fun b h => hb.out.block b h) hM⟩
  unfold maxLen at hmax
  clear hel hn hM
  go_enter Try.func4, Try.ntmps4
  go_wp2_with fail
  (with_reducible refine (size_one ?_).mono ?_)
  · simp [cellsAt]
  rintro e w1 ⟨rfl, hb1⟩
  have HB1 : Hid (Below w.heap.size w w1) := afterCall (by go_grown) hb1
  have k0 : w1.cell? ⟨w.heap.size, 0, none⟩ = some (.slice ca cn ccap) := next hb1 (by simp)
  have k1 : w1.cell? ⟨w.heap.size, 1, none⟩ = some (.slice ma mn mcap) := next hb1 (by simp)
  clear hb1
  go_wp2_with fail
  refine (size_any d _ _ _ (HM.out _ HB1)).mono ?_
  rintro e w2 ⟨rfl, hb2⟩
  have HB2 := nextB hb2 HB1
  have k2 := next (o := 0) hb2 k0
  have k3 := next (o := 1) hb2 k1
  clear hb2 k0 k1
  go_wp2
  go_loopw [4, 19] (fun v4 v19 w' => ∃ j : Nat, j ≤ cn ∧ v19 = .int .i64 j ∧ v4 = .int .i64 (wrap64 (sizeSs p.main + sizeCs (p.classes.take j) : Nat)) ∧ Hid (Below w.heap.size w w') ∧ w'.cell? ⟨w.heap.size, 0, none⟩ = some (.slice ca cn ccap) ∧ w'.cell? ⟨w.heap.size, 1, none⟩ = some (.slice ma mn mcap)) (fun _ v19 _ => cn - (intOf v19).toNat)
  case atStart => exact ⟨0, by omega, rfl, by simp [sizeCs, sizeP_main], HB2, k2, k3⟩
  case round =>
    obtain ⟨j, hj, rfl, rfl, HB, k4, k5⟩ := hrel
    by_cases hlt : j < cn
    · obtain ⟨x, hx⟩ : ∃ x, p.classes[j]? = some x := ⟨_, List.getElem?_eq_getElem (by rw [HN.out]; exact hlt)⟩
      have HX := Lib.hid hx
      clear hx
      obtain ⟨b, off, cs, rfl, hbl, hc, hr⟩ := H.out j _ HX.out
      have HR := Lib.hid hr
      obtain ⟨fv, mv, rfl, -, -, hf, hm⟩ := hr
      obtain ⟨fa, fn, fcap, rfl⟩ := RSl.shape hf
      obtain ⟨a, n, cap, rfl⟩ := RSl.shape hm
      obtain ⟨c0, c1, c2, c3, -⟩ := cellsAt_of_block (HB.out.block b hbl) hc
      clear hf hm hc
      go_wp2_with fail
      (with_reducible refine (size_any d _ _ _ (rClass1 (x := x) (cs := [.string x.name, .string x.super, .slice fa fn fcap, .slice a n cap]) ?_ ?_)).mono ?_)
      · simp [cellsAt]
      · refine RClass.mono (fun k hk => ?_) (fun k hk => ?_) HR.out
        · have := HB.out.size; simp; omega
        · have := HB.out.size
          rw [Below.heap_alloc _ _ _ (by simp; omega), Below.heap_alloc _ _ _ (by omega)]; exact HB.out.block k hk
      rintro e w3 ⟨rfl, hb3⟩
      have HB3 : Hid (Below w.heap.size w w3) := afterCall ((HB.out.alloc HB.out.size _).alloc (by have := HB.out.size; simp; omega) _) hb3
      have k6 := next hb3 (next (by go_grown) k4)
      have k7 := next hb3 (next (by go_grown) k5)
      clear hb3
      go_wp2
      refine ⟨⟨j + 1, by omega, by go_num, ?_, HB3, k6, k7⟩, by simp [intOf]; omega⟩
      rw [sizeCs_take _ _ _ HX.out, sizeP_class, wrap_two]; congr 2; omega
    · obtain rfl : j = cn := by omega
      go_wp2_with fail
      refine (size_in HP.out HB).mono ?_
      rintro e w3 ⟨rfl, hb3⟩
      have HB3 := nextB hb3 HB
      clear hb3
      have et := List.take_of_length_le (l := p.classes) (i := j) (by rw [HN.out]; exact Nat.le_refl _)
      have HE : Hid ((wrap64 (sizeP p) == wrap64 (sizeSs p.main + sizeCs (p.classes.take j) : Nat)) = true) := by rw [et]; simp [Hid, sizeP]
      clear et
      go_wp2
      go_ret
      exact ⟨by have := HE.out; simp_all, HB3.out⟩

set_option maxRecDepth 100000 in
theorem showParts_lifted (os : Os) (started : os.Started) (H : Type) (enc : TypeId × Value → H) :
    ReturnsInHanded {} Try.checked os 4 .any (Rows.showPartsSpec.pre6 enc Try.prog Try.f4 Rows.showPartsRow.domain false) (Rows.showPartsSpec.post enc Try.prog Try.f4 false true false false) := by
  refine returnsInHanded_of_change (C := Try.checked) own started (by kernel_rfl) Try.func4
    (ChangeSpec.witness6 (enc := enc) (C := Try.checked) false ⟨#[], #[.agg #[.slice none 0 0, .slice none 0 0]], []⟩ 8 (by kernel_rfl) (by kernel_rfl) (by kernel_rfl) (by kernel_rfl)) ?_
  intro W base args ds gs before hval0 hW hcnd _
  have hval : ∀ (j : Nat) t v, Try.f4.params[j]? = some t → args[j]? = some v → Value.okWide Try.prog W .any base t v := hval0
  have hW' := hW
  obtain ⟨p, q, hA0, hV, rfl, hfz, hnd⟩ := hW
  have hA : DataW.TrodAll enc Try.prog W 0 (fun _ => true) true Try.f4.params.toList args.toList ds p := hA0
  rw [Try.params4] at hA hval
  obtain ⟨v0, vs0, d0, ds0, p0, q0, hargs, rfl, rfl, h0, r0⟩ := trodAll_cons hA
  obtain ⟨rfl, rfl, rfl⟩ := trodAll_nil r0
  obtain rfl : args = #[v0] := by cases args; simp_all
  obtain ⟨rfl, rfl⟩ := trodVars_none hV
  clear hA0 hval0
  simp only [List.append_nil] at hW'
  have k0 := h0
  have lt0 : ∀ x ∈ p0, x.block < W.heap.size := by obtain ⟨m, hm⟩ := k0; exact DataW.trod_lt m _ _ _ hm
  obtain ⟨cs0, rfl, -⟩ := okWide_struct Try.underlying25 (hval 0 25 v0 rfl rfl)
  obtain ⟨e0, g0, w0⟩ := read_program h0 ⟨cs0, rfl⟩
  refine (showParts_walk e0 W _ g0 w0).mono fun e W' ⟨he, bel⟩ => ?_
  subst he
  exact ⟨_, rfl, _, _, _, [], _, [], hW', trodAll_mk1 (shut_bool Try.underlying4 _), trodAll_cons_mk (Below.trod laidOut (by kernel_rfl) (of_decide_eq_true (by kernel_rfl)) k0 bel lt0) trodAll_mk0, rfl, bel.frame _, fun h => by cases h⟩

theorem showParts_holds : Rows.ShowPartsSaid :=
  OpenClaim.holds_of_wide 4 Try.f4 rfl rfl rfl rfl rfl rfl rfl ⟨rfl, rfl, rfl, rfl, rfl⟩ rfl rfl rfl rfl rfl (by kernel_rfl) Try.func4 (by kernel_rfl)
    (of_decide_eq_true (by kernel_rfl)) (by unfold Func.isWrapper; first | (rw [if_pos (by decide +kernel)]; kernel_rfl) | (rw [if_neg (by decide +kernel)]; exact ⟨rfl, rfl⟩))
    (fun os started H enc _ => showParts_lifted os started H enc)
#print axioms showParts_holds
end Go.Proofs.Ytbmbmcdaabhgnaa
