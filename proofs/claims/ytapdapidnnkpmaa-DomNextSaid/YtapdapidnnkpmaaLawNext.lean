/- DomNext: the next one over a node is over it, and under all others that are. No condition. -/
import Derived.Test.YtapdapidnnkpmaaRows
import Derived.Test.YtapdapidnnkpmaaLive
import Derived.Test.YtapdapidnnkpmaaEdgesRead
import Derived.ProofKit
import Derived.OpenShut
import Derived.HandedShaped
namespace Go.Proofs.Ytapdapidnnkpmaa
open Go.RowKit

theorem mod_in (r : Int) (N : Nat) (h0 : 1 ≤ N) (h1 : N ≤ 60) : ∃ k : Nat, k < N ∧ (wrap64 (r.tmod (N : Int) + (N : Int))).tmod (N : Int) = k := by
  have hp : (0 : Int) < (N : Int) := by omega
  have a1 := Int.tmod_lt_of_pos r hp
  have a2 := Int.lt_tmod_of_pos r hp
  rw [IntWalk.wrap64_in _ (by omega)]
  have b1 := Int.tmod_lt_of_pos (r.tmod (N : Int) + (N : Int)) hp
  have b2 := Int.tmod_nonneg (a := r.tmod (N : Int) + (N : Int)) (N : Int) (by omega)
  exact ⟨((r.tmod (N : Int) + (N : Int)).tmod (N : Int)).toNat, by omega, by omega⟩

set_option maxHeartbeats 4000000 in
theorem next_walk (w : World) (n : Int) (v : Value) (l : List Edge) (r a : Int) (hv : RE w v l) :
    Calls Try.prog 6 #[.int .i64 n, v, .int .i64 r, .int .i64 a] w fun e w' => e = .returned (.bool true) ∧ Below w.heap.size w w' := by
  have HV := Lib.hid hv
  obtain ⟨ad, m, cap, rfl, hn, hmax, hel⟩ := hv
  have HN := Lib.hid hn
  clear hn hel
  by_cases hbig : 60 < n
  · go_enter Try.func6, Try.ntmps6
    go_wp2_with fail
    refine (live_any _).mono ?_
    rintro e w1 ⟨rfl, hb⟩
    have HB := Lib.hid hb
    clear hb
    go_wp2
    go_ret
    exact ⟨rfl, HB.out⟩
  by_cases hbig1 : n < 1
  · go_enter Try.func6, Try.ntmps6
    go_wp2_with fail
    refine (live_any _).mono ?_
    rintro e w1 ⟨rfl, hb⟩
    have HB := Lib.hid hb
    clear hb
    go_wp2
    go_ret
    exact ⟨rfl, HB.out⟩
  by_cases hbig2 : 400 < m
  · go_enter Try.func6, Try.ntmps6
    go_wp2_with fail
    refine (live_any _).mono ?_
    rintro e w1 ⟨rfl, hb⟩
    have HB := Lib.hid hb
    clear hb
    go_wp2
    go_ret
    exact ⟨rfl, HB.out⟩
  obtain ⟨N, rfl⟩ : ∃ N : Nat, n = N := ⟨n.toNat, by omega⟩
  go_enter Try.func6, Try.ntmps6
  go_wp2_with fail
  refine (live_any _).mono ?_
  rintro e w1 ⟨rfl, hb⟩
  have HB1 := Lib.hid hb
  clear hb
  obtain ⟨s, hs, es⟩ := mod_in r N (by omega) (by omega)
  obtain ⟨a', ha', ea⟩ := mod_in a N (by omega) (by omega)
  have ES := Lib.hid es
  have EA := Lib.hid ea
  clear es ea
  have hml : l.length ≤ 1000000 := by rw [HN.out]; omega
  have HML := Lib.hid hml
  clear hml
  go_upto_region 6 with (fail)
  rw [ES.out, EA.out]
  go_wp2_with fail
  refine (tree_any _ _ _ _ _ (HV.out.below HB1.out) HML.out).mono ?_
  rintro e w2 ⟨hb2, h | h | h⟩
  · obtain ⟨-, rfl⟩ := h
    have HB2 : Hid (Below w.heap.size w w2) := HB1.out.trans (hb2.mono HB1.out.size)
    clear hb2
    go_wp2
    go_ret
    exact ⟨rfl, HB2.out⟩
  · exact absurd ⟨by omega, by omega⟩ h.2.1
  obtain ⟨-, N', s', E, u, ub, eN, eS, -, hN, -, hed, ht, rfl, hrow⟩ := h
  obtain rfl : N = N' := by omega
  obtain rfl : s = s' := by omega
  have HB2 : Hid (Below w.heap.size w w2) := HB1.out.trans (hb2.mono HB1.out.size)
  have HR2 := Lib.hid (RI.of_tree hrow (by omega))
  have HT := Lib.hid ht
  have hlt : ∀ i, Rch E s i → i < N := fun i h => rch_lt hs hed h
  have HLT := Lib.hid hlt
  have HC : Hid (∀ i, i < N → ub < w2.heap.size ∧ w2.cell? ⟨ub, i, none⟩ = some (.int .i64 (upI s u i))) := fun i hi => ⟨hrow.lt, by rw [hrow.cell hi, upEnd_eq]⟩
  clear hb2 eN eS hed ht hrow hlt
  have hmn : (N : Int) ≤ 60 := by omega
  go_wp2
  go_loopw [63] (fun v63 wr => ∃ k : Nat, k ≤ N ∧ v63 = .int .i64 k ∧ Hid (Below w2.heap.size w2 wr)) (fun v63 _ => N - (intOf v63).toNat)
  case atStart => exact ⟨0, by omega, rfl, Below.refl _ _⟩
  case round =>
    obtain ⟨k, hk, rfl, HB⟩ := hrel
    by_cases hkN : k < N
    · have hc := (HB.out.cell (p := ⟨ub, k, none⟩) (HC.out k hkN).1).trans (HC.out k hkN).2
      by_cases hneg : upI s u k < 0
      · have HNEG := Lib.hid hneg
        go_wp2
        exact ⟨⟨k + 1, by omega, by go_num, HB⟩, by simp [intOf]; omega⟩
      · have hks : k ≠ s := by
          rintro rfl
          rw [upI_root] at hneg; omega
        obtain ⟨p, hp⟩ : ∃ p, u k = some p := by
          cases h : u k with
          | none => rw [upI_none h] at hneg; omega
          | some p => exact ⟨p, rfl⟩
        obtain ⟨r1, r2, r3, r4⟩ := HT.out.par hks hp
        have hpN := HLT.out p r2
        rw [upI_some hks hp] at hc
        have hne : ¬ (p : Int) = (k : Int) := by omega
        have HO1 : Hid (overB (upL s u N) p k = true) := (overB_dom HT.out HLT.out hpN r1).2 r4
        have hLL : (upL s u N).length ≤ 1000000 := by rw [upL_len]; omega
        have HLL := Lib.hid hLL
        have HNX : Hid (a' ≠ k → overB (upL s u N) a' k = true → overB (upL s u N) a' p = true) := fun e h => by
          have h1 := (HT.out.dom k a' r1).2 ((overB_dom HT.out HLT.out ha' r1).1 h)
          obtain ⟨-, q, hq, h2⟩ := h1.next (fun x => e x.symm)
          rw [hp] at hq
          obtain rfl := Option.some.inj hq
          exact (overB_dom HT.out HLT.out ha' r2).2 ((HT.out.dom p a' r2).1 h2)
        clear hneg hp r1 r2 r4 hks hLL
        go_wp2_with fail
        refine (domOver_any _ _ _ _ _ (HR2.out.below HB.out) HLL.out).mono ?_
        rw [HO1.out]
        rintro e w3 ⟨rfl, hb⟩
        have HB3 : Hid (Below w2.heap.size w2 w3) := HB.out.trans (hb.mono HB.out.size)
        clear hb
        by_cases hak : a' = k
        · subst hak
          go_wp2
          exact ⟨⟨a' + 1, by omega, by go_num, HB3⟩, by simp [intOf]; omega⟩
        · have hak2 : ((a' : Int) != (k : Int)) = true := by simp; omega
          have HNX2 := Lib.hid (HNX.out hak)
          clear HNX
          go_wp2_with fail
          refine (domOver_any _ _ _ _ _ (HR2.out.below HB3.out) HLL.out).mono ?_
          cases hq : overB (upL s u N) a' k with
          | false =>
            rintro e w4 ⟨rfl, hb⟩
            have HB4 : Hid (Below w2.heap.size w2 w4) := HB3.out.trans (hb.mono HB3.out.size)
            clear hb hq
            go_wp2
            exact ⟨⟨k + 1, by omega, by go_num, HB4⟩, by simp [intOf]; omega⟩
          | true =>
            have HQ := Lib.hid (HNX2.out hq)
            rintro e w4 ⟨rfl, hb⟩
            have HB4 : Hid (Below w2.heap.size w2 w4) := HB3.out.trans (hb.mono HB3.out.size)
            clear hb hq
            go_wp2_with fail
            refine (domOver_any _ _ _ _ _ (HR2.out.below HB4.out) HLL.out).mono ?_
            rw [HQ.out]
            rintro e w5 ⟨rfl, hb⟩
            have HB5 : Hid (Below w2.heap.size w2 w5) := HB4.out.trans (hb.mono HB4.out.size)
            clear hb
            go_wp2
            exact ⟨⟨k + 1, by omega, by go_num, HB5⟩, by simp [intOf]; omega⟩
    · have hc := (HB.out.cell (p := ⟨ub, s, none⟩) (HC.out s hs).1).trans (HC.out s hs).2
      rw [upI_root] at hc
      have HBE : Hid (Below w.heap.size w wr) := HB2.out.trans (HB.out.mono HB2.out.size)
      go_wp2
      go_ret
      exact ⟨rfl, HBE.out⟩
open Go.ChangeShapes Go.WideShapes Go.ChangeAt Go.RowKit
open Go.ChangeMaps (open_string shut_string)
set_option linter.unusedVariables false
theorem own : ownKnob Try.prog.godebug = none := by kernel_rfl
theorem laidOut : laidOutB Try.prog = true := by kernel_rfl
set_option maxRecDepth 100000 in
theorem domNext_lifted (os : Os) (started : os.Started) (H : Type) (enc : TypeId × Value → H) :
    ReturnsInHanded {} Try.checked os 6 .any (Rows.domNextSpec.pre6 enc Try.prog Try.f6 Rows.domNextRow.domain false) (Rows.domNextSpec.post enc Try.prog Try.f6 false true false false) := by
  refine returnsInHanded_of_change_shaped (C := Try.checked) own started (by kernel_rfl) Try.func6
    (ChangeSpec.witness6 (enc := enc) (C := Try.checked) false ⟨#[], #[.int .i64 0, .slice none 0 0, .int .i64 0, .int .i64 0], []⟩ 8 (by kernel_rfl) (by kernel_rfl) (by kernel_rfl) (by kernel_rfl)) ?_
  intro W base args ds gs before hval0 hW hcnd hsz0 hsh _
  have hval : ∀ (j : Nat) t v, Try.f6.params[j]? = some t → args[j]? = some v → Value.okWide Try.prog W .any base t v := hval0
  have hW' := hW
  obtain ⟨p, q, hA0, hV, rfl, hfz, hnd⟩ := hW
  have hA : DataW.TrodAll enc Try.prog W 0 (fun _ => true) true Try.f6.params.toList args.toList ds p := hA0
  have hsz : ∀ n ∈ DataW.weightsEach Try.prog (Try.f6.params.toList ++ Rows.domNextSpec.plain.varTypes Try.prog) (ds ++ gs), n ≤ reachBytes := fun n hn => of_decide_eq_true (List.all_eq_true.1 hsz0 n hn)
  rw [Try.params6] at hA hval hsz
  clear hsz0
  obtain ⟨v0, vs0, d0, ds0, p0, q0, hargs, rfl, rfl, h0, r0⟩ := trodAll_cons hA
  obtain ⟨v1, vs1, d1, ds1, p1, q1, rfl, rfl, rfl, h1, r1⟩ := trodAll_cons r0
  obtain ⟨v2, vs2, d2, ds2, p2, q2, rfl, rfl, rfl, h2, r2⟩ := trodAll_cons r1
  obtain ⟨v3, vs3, d3, ds3, p3, q3, rfl, rfl, rfl, h3, r3⟩ := trodAll_cons r2
  obtain ⟨rfl, rfl, rfl⟩ := trodAll_nil r3
  obtain rfl : args = #[v0, v1, v2, v3] := by cases args; simp_all
  obtain ⟨rfl, rfl⟩ := trodVars_none hV
  clear hA0 hval0
  simp only [List.append_nil] at hW'
  have k0 := h0
  have lt0 : ∀ x ∈ p0, x.block < W.heap.size := by obtain ⟨m, hm⟩ := k0; exact DataW.trod_lt m _ _ _ hm
  have k1 := h1
  have lt1 : ∀ x ∈ p1, x.block < W.heap.size := by obtain ⟨m, hm⟩ := k1; exact DataW.trod_lt m _ _ _ hm
  have k2 := h2
  have lt2 : ∀ x ∈ p2, x.block < W.heap.size := by obtain ⟨m, hm⟩ := k2; exact DataW.trod_lt m _ _ _ hm
  have k3 := h3
  have lt3 : ∀ x ∈ p3, x.block < W.heap.size := by obtain ⟨m, hm⟩ := k3; exact DataW.trod_lt m _ _ _ hm
  have fit1 : Fits Try.prog 22 d1 := fun n hn => hsz n (DataW.weights_mem_each (j := 1) rfl rfl n hn)
  obtain ⟨sa1, sn1, sc1, rfl⟩ := okWide_slice Try.underlying22 (hval 1 22 v1 rfl rfl)
  obtain ⟨rn1, h1⟩ := h1
  obtain ⟨rv1, l1, re1, R1⟩ := read_edges fit1 h1
  obtain rfl : rv1 = _ := by simpa [Value.cells] using re1.symm
  obtain ⟨z0, rfl⟩ := okWide_int Try.underlying3 (hval 0 3 v0 rfl rfl)
  obtain ⟨rn0, h0⟩ := h0
  obtain ⟨ra0, re0, wf0⟩ := read_int h0
  obtain rfl : ra0 = z0 := by simpa [Value.cells] using re0.symm
  obtain ⟨z2, rfl⟩ := okWide_int Try.underlying3 (hval 2 3 v2 rfl rfl)
  obtain ⟨rn2, h2⟩ := h2
  obtain ⟨ra2, re2, wf2⟩ := read_int h2
  obtain rfl : ra2 = z2 := by simpa [Value.cells] using re2.symm
  obtain ⟨z3, rfl⟩ := okWide_int Try.underlying3 (hval 3 3 v3 rfl rfl)
  obtain ⟨rn3, h3⟩ := h3
  obtain ⟨ra3, re3, wf3⟩ := read_int h3
  obtain rfl : ra3 = z3 := by simpa [Value.cells] using re3.symm
  refine (next_walk W _ _ l1 _ _ (RE.of_rsl R1)).mono fun e W' ⟨he, bel⟩ => ?_
  subst he
  exact ⟨_, rfl, _, _, _, [], _, [], hW', trodAll_mk1 (shut_bool Try.underlying4 _), trodAll_cons_mk (Below.trod laidOut (by kernel_rfl) (of_decide_eq_true (by kernel_rfl)) k0 bel lt0) (trodAll_cons_mk (Below.trod laidOut (by kernel_rfl) (of_decide_eq_true (by kernel_rfl)) k1 bel lt1) (trodAll_cons_mk (Below.trod laidOut (by kernel_rfl) (of_decide_eq_true (by kernel_rfl)) k2 bel lt2) (trodAll_cons_mk (Below.trod laidOut (by kernel_rfl) (of_decide_eq_true (by kernel_rfl)) k3 bel lt3) trodAll_mk0))), rfl, bel.frame _, fun h => by cases h⟩

theorem domNext_holds : Rows.DomNextSaid :=
  OpenClaim.holds_of_wide 6 Try.f6 rfl rfl rfl rfl rfl rfl rfl ⟨rfl, rfl, rfl, rfl, rfl⟩ rfl rfl rfl rfl rfl (by kernel_rfl) Try.func6 (by kernel_rfl)
    (of_decide_eq_true (by kernel_rfl)) (by unfold Func.isWrapper; first | (rw [if_pos (by decide +kernel)]; kernel_rfl) | (rw [if_neg (by decide +kernel)]; exact ⟨rfl, rfl⟩))
    (fun os started H enc _ => domNext_lifted os started H enc)
#print axioms domNext_holds
end Go.Proofs.Ytapdapidnnkpmaa
