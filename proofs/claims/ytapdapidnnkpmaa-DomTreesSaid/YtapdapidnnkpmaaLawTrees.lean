/- DomTrees: the next one over each node, as the reference has it. No condition. -/
import Derived.Test.YtapdapidnnkpmaaRows
import Derived.Test.YtapdapidnnkpmaaRTree
import Derived.Test.YtapdapidnnkpmaaEdgesRead
import Derived.ProofKit
import Derived.OpenShut
import Derived.HandedShaped
import Derived.Deep.DeepCutAuto
import Derived.Deep.CutBlock
namespace Go.Proofs.Ytapdapidnnkpmaa
open Go.RowKit

theorem RI.nil (w : World) : RI w (.slice none 0 0) [] := ⟨none, 0, 0, rfl, rfl, by omega, fun i x hx => by simp at hx⟩
def bigB (n : Int) (m : Nat) : Bool := (decide (60 < n) && decide (n ≤ 100000)) || decide (400 < m)
theorem big_any (n : Int) (v : Value) (l : List Edge) (w : World) (hv : RE w v l) : Calls Try.prog 8 #[.int .i64 n, v] w fun e w' => e = .returned (.bool (bigB n l.length)) ∧ w = w' := by
  obtain ⟨ad, m, cap, rfl, hn, hmax, hel⟩ := hv
  rw [hn]
  clear hn hel
  by_cases h0 : 60 < n
  · by_cases h1 : n ≤ 100000
    · have H : Hid (bigB n m = true) := by show bigB n m = true; simp [bigB, h0, h1]
      go_enter Try.func8, Try.ntmps8
      go_wp2
      go_ret
      exact ⟨by rw [H.out]; rfl, rfl⟩
    · by_cases h2 : 400 < m
      · have H : Hid (bigB n m = true) := by show bigB n m = true; simp [bigB, h2]
        go_enter Try.func8, Try.ntmps8
        go_wp2
        go_ret
        exact ⟨by rw [H.out]; simp; omega, rfl⟩
      · have H : Hid (bigB n m = false) := by show bigB n m = false; simp [bigB, h1, h2]
        go_enter Try.func8, Try.ntmps8
        go_wp2
        go_ret
        exact ⟨by rw [H.out]; simp; omega, rfl⟩
  · by_cases h2 : 400 < m
    · have H : Hid (bigB n m = true) := by show bigB n m = true; simp [bigB, h2]
      go_enter Try.func8, Try.ntmps8
      go_wp2
      go_ret
      exact ⟨by rw [H.out]; simp; omega, rfl⟩
    · have H : Hid (bigB n m = false) := by show bigB n m = false; simp [bigB, h0, h2]
      go_enter Try.func8, Try.ntmps8
      go_wp2
      go_ret
      exact ⟨by rw [H.out]; simp; omega, rfl⟩
theorem refTree_bad (w : World) (n r : Int) (v : Value) (l : List Edge) (hv : RE w v l) (hg : graphB n l = false) :
    Calls Try.prog 10 #[.int .i64 n, v, .int .i64 r] w fun e w' => e = .returned (.tuple #[.slice none 0 0, .int .i64 150]) ∧ Below w.heap.size w w' := by
  have HV := Lib.hid hv
  have HG := Lib.hid hg
  clear hv hg
  go_enter Try.func10, Try.ntmps10
  go_wp2_with fail
  refine (refCheck_any n v _ w HV.out).mono ?_
  rw [HG.out]
  rintro e w1 ⟨rfl, hb⟩
  have HB1 := Lib.hid hb
  clear hb
  simp only [edgeErr]
  go_wp2
  go_ret2
  exact ⟨rfl, HB1.out⟩
theorem refTree_root (w : World) (n r : Int) (v : Value) (l : List Edge) (hv : RE w v l) (hg : graphB n l = true) (hr : ¬ (0 ≤ r ∧ r < n)) :
    Calls Try.prog 10 #[.int .i64 n, v, .int .i64 r] w fun e w' => e = .returned (.tuple #[.slice none 0 0, .int .i64 1]) ∧ Below w.heap.size w w' := by
  have HV := Lib.hid hv
  have HG := Lib.hid hg
  clear hv hg
  by_cases h0 : r < 0
  · clear hr
    go_enter Try.func10, Try.ntmps10
    go_wp2_with fail
    refine (refCheck_any n v _ w HV.out).mono ?_
    rw [HG.out]
    rintro e w1 ⟨rfl, hb⟩
    have HB1 := Lib.hid hb
    clear hb
    simp only [edgeErr]
    go_wp2
    go_ret2
    exact ⟨rfl, HB1.out⟩
  · have h1 : n ≤ r := by omega
    clear hr
    go_enter Try.func10, Try.ntmps10
    go_wp2_with fail
    refine (refCheck_any n v _ w HV.out).mono ?_
    rw [HG.out]
    rintro e w1 ⟨rfl, hb⟩
    have HB1 := Lib.hid hb
    clear hb
    simp only [edgeErr]
    go_wp2
    go_ret2
    exact ⟨rfl, HB1.out⟩

theorem RE.cells {w : World} {b off m cap : Nat} {l : List Edge} (h : RE w (.slice (some ⟨b, off, none⟩) m cap) l) : ∀ (j : Nat) (u : Value), (cellsE l)[j]? = some u → w.cell? ((Addr.mk b off none).add j) = some u := by
  intro j u hj
  obtain ⟨a, n, c, e, hn, -, hel⟩ := h
  have hjl : j < l.length * 2 := by rw [← cellsE_len]; exact (List.getElem?_eq_some_iff.1 hj).1
  obtain ⟨x, hx⟩ : ∃ x, l[j / 2]? = some x := ⟨_, List.getElem?_eq_getElem (by omega)⟩
  obtain ⟨b', off', e2, -, c0, c1⟩ := hel _ x hx
  obtain ⟨d0, d1⟩ := cellsE_at l _ x hx
  simp only [Value.slice.injEq] at e
  rw [← e.1] at e2
  simp only [Option.some.injEq, Addr.mk.injEq, and_true] at e2
  obtain ⟨rfl, rfl⟩ := e2
  have ha : (Addr.mk b off none).add j = ⟨b, off + j, none⟩ := by unfold Addr.add; split <;> simp_all
  rw [ha]
  by_cases hp : j % 2 = 0
  · have ej : j / 2 * 2 = j := by omega
    rw [ej] at c0 d0
    rw [c0, ← hj, d0]
  · have ej : j / 2 * 2 + 1 = j := by omega
    have ej2 : off + j / 2 * 2 + 1 = off + j := by omega
    rw [ej] at d1
    rw [ej2] at c1
    rw [c1, ← hj, d1]

theorem read_nil {H : Type} {enc : TypeId × Value → H} {w : World} {held : Bool} {t e : TypeId} {fuel n c : Nat} {y : DataW H × List MemPlace} (ht : Try.prog.underlying t = some (.slice e)) (h : DataW.trod enc Try.prog w 0 (fun _ => true) held fuel t [.slice none n c] = some y) : n = 0 ∧ c = 0 := by
  rcases DataW.trod_slice ht h with ⟨h1, _⟩ | ⟨a, len, cap, elems, rest, n, hf, h1, _⟩
  · simp only [List.cons.injEq, Value.slice.injEq, and_true] at h1
    exact ⟨h1.2.1, h1.2.2⟩
  · simp at h1

set_option maxHeartbeats 4000000 in
theorem trees_walk (w : World) (n : Int) (v : Value) (l : List Edge) (r : Int) (hv : RE w v l) (hnil : ∀ n c, v = .slice none n c → n = 0 ∧ c = 0) :
    Calls Try.prog 3 #[.int .i64 n, v, .int .i64 r] w fun e w' => e = .returned (.bool true) ∧ Below w.heap.size w w' := by
  have HV := Lib.hid hv
  obtain ⟨ad, m, cap, rfl, hn, hmax, hel⟩ := hv
  have HN := Lib.hid hn
  have HEL := Lib.hid hel
  have HNIL := Lib.hid hnil
  clear hn hel hnil
  go_enter Try.func3, Try.ntmps3
  go_wp2_with fail
  refine (live_any _).mono ?_
  rintro e w1 ⟨rfl, hb⟩
  have HB1 := Lib.hid hb
  clear hb
  go_wp2_with fail
  refine (big_any n _ l w1 (HV.out.below HB1.out)).mono ?_
  cases hbig : bigB n l.length with
  | true =>
    rintro e w2 ⟨rfl, rfl⟩
    clear hbig
    go_wp2
    go_ret
    exact ⟨rfl, HB1.out⟩
  | false =>
    rintro e w2 ⟨rfl, rfl⟩
    have hml : m ≤ 400 := by
      unfold bigB at hbig
      simp only [Bool.or_eq_false_iff, decide_eq_false_iff_not] at hbig
      have := HN.out; omega
    clear hbig
    go_upto_region 4 with (fail)
    go_cut [8] (fun v8 wx => Hid (RE wx v8 l) ∧ Hid (Below w1.heap.size w1 wx))
    case first =>
      cases ad with
      | none =>
        obtain ⟨rfl, rfl⟩ := HNIL.out m cap rfl
        have hl0 : l = [] := List.eq_nil_of_length_eq_zero HN.out
        have HL0 := Lib.hid hl0
        clear hl0
        obtain ⟨i0, hi, hz0, hz1, hz2⟩ := info_parts infoEdge
        go_wp2_with (at_builtin; (refine wpList_append_own_none rfl _ _ 22 rfl w1.heap.size 36 i0 2 Try.underlying22 hi (.slice none 0 0) 0 [] rfl (World.ownsRow_nil _ _ _ _) rfl ?_))
        go_meet
        exact ⟨by rw [HL0.out]; exact ⟨none, 0, 0, rfl, rfl, by omega, fun i x hx => by simp at hx⟩, Below.refl _ _⟩
      | some ad =>
        have hnews : Hid (∀ (j : Nat) (u : Value), (cellsE l)[j]? = some u → w1.cell? (ad.add j) = some u) := by
          intro j u hj
          have hjl : j < l.length * 2 := by rw [← cellsE_len]; exact (List.getElem?_eq_some_iff.1 hj).1
          obtain ⟨x, hx⟩ : ∃ x, l[0]? = some x := ⟨_, List.getElem?_eq_getElem (by omega)⟩
          obtain ⟨b, off, e, -⟩ := HEL.out 0 x hx
          obtain rfl := Option.some.inj e
          exact RE.cells (HV.out.below HB1.out) j u hj
        have hcl : Hid ((cellsE l).length = m * 2) := by show (cellsE l).length = m * 2; rw [cellsE_len, HN.out]
        have h1c : Hid (∀ u ∈ cellsE l, u.oneCell' = true) := by
          intro u hu
          unfold cellsE at hu
          obtain ⟨e, -, he⟩ := List.mem_flatMap.1 hu
          simp only [List.mem_cons, List.not_mem_nil, or_false] at he
          rcases he with rfl | rfl <;> rfl
        obtain ⟨i0, hi, hz0, hz1, hz2⟩ := info_parts infoEdge
        go_wp2_with (at_builtin; (refine wpList_append_own_at _ rfl _ _ 22 rfl w1.heap.size 36 i0 _ 2 16 Try.underlying22 hi hz0 hz1 hz2 rfl (by decide) (.slice none 0 0) 0 [] rfl (World.ownsRow_nil _ _ _ _) ad m cap (cellsE l) rfl hcl.out hnews.out h1c.out (by unfold maxLen; omega) (by omega) (Nat.le_refl _) ?_)
                     intro v8 w2 hown hg _ _
                     have HOW : Hid (Own w1 w2 36 2 v8 l.length (cellsE l)) := (Own.start w1 _ _).push hg (by
                       rw [HN.out]
                       simpa using hown)
                     clear hown hg)
        go_meet
        exact ⟨RE.of_Own HOW.out (by rw [HN.out]; omega), HOW.out.below⟩
    case rest =>
      obtain ⟨HO, HB12⟩ := hcut
      obtain ⟨w2, rfl⟩ : ∃ w2 : World, w2 = wc := ⟨_, rfl⟩
      have HB2 : Hid (Below w.heap.size w w2) := HB1.out.trans (HB12.out.mono HB1.out.size)
      have hll : l.length ≤ 1000000 := by rw [HN.out]; omega
      have HLL := Lib.hid hll
      clear HB12 HB1 hll
      go_wp2_with fail
      refine (tree_any w2 n r _ l HO.out HLL.out).mono ?_
      rintro e w3 ⟨hb3, h | h | h⟩
      · obtain ⟨hg, rfl⟩ := h
        have HG := Lib.hid hg
        clear hg
        have HB3 : Hid (Below w.heap.size w w3) := HB2.out.trans (hb3.mono HB2.out.size)
        have HO3 : Hid (RE w3 _ l) := HO.out.below hb3
        clear hb3 HO
        go_wp2_with fail
        refine (refTree_bad w3 n r _ l (HV.out.below HB3.out) HG.out).mono ?_
        rintro e w4 ⟨rfl, hb⟩
        have HB4 : Hid (Below w.heap.size w w4) := HB3.out.trans (hb.mono HB3.out.size)
        have HO4 : Hid (RE w4 _ l) := HO3.out.below hb
        clear hb HO3 HB3
        go_wp2_with fail
        refine (sameInts_any _ _ _ _ _ (RI.nil w4) (RI.nil w4)).mono ?_
        rintro e w5 ⟨rfl, hb⟩
        have HB5 : Hid (Below w.heap.size w w5) := HB4.out.trans (hb.mono HB4.out.size)
        have HO5 : Hid (RE w5 _ l) := HO4.out.below hb
        have ed : decide (([] : List Int) = []) = true := by decide
        rw [ed]
        clear hb HO4 HB4 ed
        go_wp2_with fail
        refine (sameEdges_any _ _ _ _ _ HO5.out (HV.out.below HB5.out)).mono ?_
        rintro e w6 ⟨rfl, hb⟩
        have HB6 : Hid (Below w.heap.size w w6) := HB5.out.trans (hb.mono HB5.out.size)
        have ed : decide (l = l) = true := by simp
        rw [ed]
        clear hb HO5 HB5 ed
        go_wp2
        go_ret
        exact ⟨rfl, HB6.out⟩
      · obtain ⟨hg, hr, rfl⟩ := h
        have HG := Lib.hid hg
        have HRT := Lib.hid hr
        clear hg hr
        have HB3 : Hid (Below w.heap.size w w3) := HB2.out.trans (hb3.mono HB2.out.size)
        have HO3 : Hid (RE w3 _ l) := HO.out.below hb3
        clear hb3 HO
        go_wp2_with fail
        refine (refTree_root w3 n r _ l (HV.out.below HB3.out) HG.out HRT.out).mono ?_
        rintro e w4 ⟨rfl, hb⟩
        have HB4 : Hid (Below w.heap.size w w4) := HB3.out.trans (hb.mono HB3.out.size)
        have HO4 : Hid (RE w4 _ l) := HO3.out.below hb
        clear hb HO3 HB3
        go_wp2_with fail
        refine (sameInts_any _ _ _ _ _ (RI.nil w4) (RI.nil w4)).mono ?_
        rintro e w5 ⟨rfl, hb⟩
        have HB5 : Hid (Below w.heap.size w w5) := HB4.out.trans (hb.mono HB4.out.size)
        have HO5 : Hid (RE w5 _ l) := HO4.out.below hb
        have ed : decide (([] : List Int) = []) = true := by decide
        rw [ed]
        clear hb HO4 HB4 ed
        go_wp2_with fail
        refine (sameEdges_any _ _ _ _ _ HO5.out (HV.out.below HB5.out)).mono ?_
        rintro e w6 ⟨rfl, hb⟩
        have HB6 : Hid (Below w.heap.size w w6) := HB5.out.trans (hb.mono HB5.out.size)
        have ed : decide (l = l) = true := by simp
        rw [ed]
        clear hb HO5 HB5 ed
        go_wp2
        go_ret
        exact ⟨rfl, HB6.out⟩
      · obtain ⟨hg, N, s, E, u, ub, rfl, rfl, hs, hN, hl, hed, ht, rfl, hrow⟩ := h
        have HG := Lib.hid hg
        have HED := Lib.hid hed
        have HT := Lib.hid ht
        have HLE := Lib.hid hl
        have HB3 : Hid (Below w.heap.size w w3) := HB2.out.trans (hb3.mono HB2.out.size)
        have HO3 : Hid (RE w3 _ l) := HO.out.below hb3
        have HR3 := Lib.hid (RI.of_tree hrow hN)
        have hel : E.length ≤ 1000000 := by have := HLL.out; rw [hl, List.length_map] at this; exact this
        have HEN := Lib.hid hel
        clear hb3 HO hg hed ht hrow hel hl
        go_wp2_with fail
        refine (refTree_main w3 N s _ E u HT.out (by rw [← HLE.out]; exact HV.out.below HB3.out) HEN.out hN hs HED.out (by rw [← HLE.out]; exact HG.out)).mono ?_
        rintro e w4 ⟨hb, ob, rfl, hrow⟩
        have HB4 : Hid (Below w.heap.size w w4) := HB3.out.trans (hb.mono HB3.out.size)
        have HO4 : Hid (RE w4 _ l) := HO3.out.below hb
        have HR4 : Hid (RI w4 _ _) := HR3.out.below hb
        have HQ4 := Lib.hid (RI.of_tree hrow hN)
        clear hb HO3 HB3 HR3 hrow
        go_wp2_with fail
        refine (sameInts_any _ _ _ _ _ HR4.out HQ4.out).mono ?_
        rintro e w5 ⟨rfl, hb⟩
        have HB5 : Hid (Below w.heap.size w w5) := HB4.out.trans (hb.mono HB4.out.size)
        have HO5 : Hid (RE w5 _ l) := HO4.out.below hb
        have ed : decide (upL s u N = upL s u N) = true := by simp
        rw [ed]
        clear hb HO4 HB4 ed
        go_wp2_with fail
        refine (sameEdges_any _ _ _ _ _ HO5.out (HV.out.below HB5.out)).mono ?_
        rintro e w6 ⟨rfl, hb⟩
        have HB6 : Hid (Below w.heap.size w w6) := HB5.out.trans (hb.mono HB5.out.size)
        have ed : decide (l = l) = true := by simp
        rw [ed]
        clear hb HO5 HB5 ed
        go_wp2
        go_ret
        exact ⟨rfl, HB6.out⟩
open Go.ChangeShapes Go.WideShapes Go.ChangeAt Go.RowKit
open Go.ChangeMaps (open_string shut_string)
set_option linter.unusedVariables false
theorem own : ownKnob Try.prog.godebug = none := by kernel_rfl
theorem laidOut : laidOutB Try.prog = true := by kernel_rfl
set_option maxRecDepth 100000 in
theorem domTrees_lifted (os : Os) (started : os.Started) (H : Type) (enc : TypeId × Value → H) :
    ReturnsInHanded {} Try.checked os 3 .any (Rows.domTreesSpec.pre6 enc Try.prog Try.f3 Rows.domTreesRow.domain false) (Rows.domTreesSpec.post enc Try.prog Try.f3 false true false false) := by
  refine returnsInHanded_of_change_shaped (C := Try.checked) own started (by kernel_rfl) Try.func3
    (ChangeSpec.witness6 (enc := enc) (C := Try.checked) false ⟨#[], #[.int .i64 0, .slice none 0 0, .int .i64 0], []⟩ 8 (by kernel_rfl) (by kernel_rfl) (by kernel_rfl) (by kernel_rfl)) ?_
  intro W base args ds gs before hval0 hW hcnd hsz0 hsh _
  have hval : ∀ (j : Nat) t v, Try.f3.params[j]? = some t → args[j]? = some v → Value.okWide Try.prog W .any base t v := hval0
  have hW' := hW
  obtain ⟨p, q, hA0, hV, rfl, hfz, hnd⟩ := hW
  have hA : DataW.TrodAll enc Try.prog W 0 (fun _ => true) true Try.f3.params.toList args.toList ds p := hA0
  have hsz : ∀ n ∈ DataW.weightsEach Try.prog (Try.f3.params.toList ++ Rows.domTreesSpec.plain.varTypes Try.prog) (ds ++ gs), n ≤ reachBytes := fun n hn => of_decide_eq_true (List.all_eq_true.1 hsz0 n hn)
  rw [Try.params3] at hA hval hsz
  clear hsz0
  obtain ⟨v0, vs0, d0, ds0, p0, q0, hargs, rfl, rfl, h0, r0⟩ := trodAll_cons hA
  obtain ⟨v1, vs1, d1, ds1, p1, q1, rfl, rfl, rfl, h1, r1⟩ := trodAll_cons r0
  obtain ⟨v2, vs2, d2, ds2, p2, q2, rfl, rfl, rfl, h2, r2⟩ := trodAll_cons r1
  obtain ⟨rfl, rfl, rfl⟩ := trodAll_nil r2
  obtain rfl : args = #[v0, v1, v2] := by cases args; simp_all
  obtain ⟨rfl, rfl⟩ := trodVars_none hV
  clear hA0 hval0
  simp only [List.append_nil] at hW'
  have k0 := h0
  have lt0 : ∀ x ∈ p0, x.block < W.heap.size := by obtain ⟨m, hm⟩ := k0; exact DataW.trod_lt m _ _ _ hm
  have k1 := h1
  have lt1 : ∀ x ∈ p1, x.block < W.heap.size := by obtain ⟨m, hm⟩ := k1; exact DataW.trod_lt m _ _ _ hm
  have k2 := h2
  have lt2 : ∀ x ∈ p2, x.block < W.heap.size := by obtain ⟨m, hm⟩ := k2; exact DataW.trod_lt m _ _ _ hm
  have fit1 : Fits Try.prog 22 d1 := fun n hn => hsz n (DataW.weights_mem_each (j := 1) rfl rfl n hn)
  have hraw := h1
  obtain ⟨sa1, sn1, sc1, rfl⟩ := okWide_slice Try.underlying22 (hval 1 22 v1 rfl rfl)
  obtain ⟨rn1, h1⟩ := h1
  obtain ⟨rv1, l1, re1, R1⟩ := read_edges fit1 h1
  obtain rfl : rv1 = _ := by simpa [Value.cells] using re1.symm
  obtain ⟨z0, rfl⟩ := okWide_int Try.underlying3 (hval 0 3 v0 rfl rfl)
  obtain ⟨rn0, h0⟩ := h0
  obtain ⟨ra0, re0, wf0⟩ := read_int h0
  obtain rfl : ra0 = z0 := by simpa [Value.cells] using re0.symm
  obtain ⟨z2, rfl⟩ := okWide_int Try.underlying3 (hval 2 3 v2 rfl rfl)
  obtain ⟨rn2, h2⟩ := h2
  obtain ⟨ra2, re2, wf2⟩ := read_int h2
  obtain rfl : ra2 = z2 := by simpa [Value.cells] using re2.symm
  have hnil : ∀ n c, Value.slice sa1 sn1 sc1 = .slice none n c → n = 0 ∧ c = 0 := fun n c e => by
    obtain ⟨fu, hf⟩ := hraw
    rw [e] at hf
    exact read_nil Try.underlying22 hf
  refine (trees_walk W _ _ l1 _ (RE.of_rsl R1) hnil).mono fun e W' ⟨he, bel⟩ => ?_
  subst he
  exact ⟨_, rfl, _, _, _, [], _, [], hW', trodAll_mk1 (shut_bool Try.underlying4 _), trodAll_cons_mk (Below.trod laidOut (by kernel_rfl) (of_decide_eq_true (by kernel_rfl)) k0 bel lt0) (trodAll_cons_mk (Below.trod laidOut (by kernel_rfl) (of_decide_eq_true (by kernel_rfl)) k1 bel lt1) (trodAll_cons_mk (Below.trod laidOut (by kernel_rfl) (of_decide_eq_true (by kernel_rfl)) k2 bel lt2) trodAll_mk0)), rfl, bel.frame _, fun h => by cases h⟩

theorem domTrees_holds : Rows.DomTreesSaid :=
  OpenClaim.holds_of_wide 3 Try.f3 rfl rfl rfl rfl rfl rfl rfl ⟨rfl, rfl, rfl, rfl, rfl⟩ rfl rfl rfl rfl rfl (by kernel_rfl) Try.func3 (by kernel_rfl)
    (of_decide_eq_true (by kernel_rfl)) (by unfold Func.isWrapper; first | (rw [if_pos (by decide +kernel)]; kernel_rfl) | (rw [if_neg (by decide +kernel)]; exact ⟨rfl, rfl⟩))
    (fun os started H enc _ => domTrees_lifted os started H enc)
#print axioms domTrees_holds
end Go.Proofs.Ytapdapidnnkpmaa
