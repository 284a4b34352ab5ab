/- DomAll: a node is over another one, just if without it no way leads there from the root. No condition. -/
import Derived.Test.YtapdapidnnkpmaaRows
import Derived.Test.YtapdapidnnkpmaaLive
import Derived.Test.YtapdapidnnkpmaaReachW
import Derived.Test.YtapdapidnnkpmaaEdgeOwn
import Derived.Test.YtapdapidnnkpmaaMapB
import Derived.Test.YtapdapidnnkpmaaEdgesRead
import Derived.Test.YtapdapidnnkpmaaModIn
import Derived.ProofKit
import Derived.OpenShut
import Derived.HandedShaped
namespace Go.Proofs.Ytapdapidnnkpmaa
open Go.RowKit

/-- The edges that do not touch a node. -/
def lessE (E : List (Nat × Nat)) (a : Nat) : List (Nat × Nat) := E.filter fun e => decide (e.1 ≠ a) && decide (e.2 ≠ a)
theorem lessE_map (E : List (Nat × Nat)) (a : Nat) : (E.map toE).filter (keepB a) = (lessE E a).map toE := by
  unfold lessE
  rw [List.filter_map]
  congr 1
  apply List.filter_congr
  intro e _
  show (decide ((e.1 : Int) ≠ (a : Int)) && decide ((e.2 : Int) ≠ (a : Int))) = _
  rw [Bool.eq_iff_iff]
  simp only [Bool.and_eq_true, decide_eq_true_eq]
  omega
theorem RchA.off {E : List (Nat × Nat)} {s a b : Nat} (h : RchA E s a b) : b ≠ a := by
  cases h with
  | here h => exact h
  | step _ _ h => exact h
theorem rch_less {E : List (Nat × Nat)} {s a b : Nat} (has : a ≠ s) : Rch (lessE E a) s b ↔ RchA E s a b := by
  constructor
  · intro h
    induction h with
    | here => exact .here (Ne.symm has)
    | step _ he ih =>
      unfold lessE at he
      rw [List.mem_filter] at he
      have h2 := he.2
      simp only [Bool.and_eq_true, decide_eq_true_eq] at h2
      exact ih.step he.1 h2.2
  · intro h
    induction h with
    | here => exact .here
    | step h1 he hne ih =>
      refine ih.step (List.mem_filter.2 ⟨he, ?_⟩)
      simp only [Bool.and_eq_true, decide_eq_true_eq]
      exact ⟨h1.off, hne⟩
theorem less_graph {E : List (Nat × Nat)} {n : Nat} (a : Nat) (h : graphB n (E.map toE) = true) : graphB n ((lessE E a).map toE) = true := by
  unfold graphB at h ⊢
  simp only [Bool.and_eq_true, List.all_eq_true] at h ⊢
  refine ⟨h.1, fun x hx => h.2 x ?_⟩
  rw [← lessE_map, List.mem_filter] at hx
  exact hx.1
theorem less_len (E : List (Nat × Nat)) (a : Nat) : (lessE E a).length ≤ E.length := List.length_filter_le _ _
theorem less_mem {E : List (Nat × Nat)} {a : Nat} {e : Nat × Nat} (h : e ∈ lessE E a) : e ∈ E := (List.mem_filter.1 h).1
def inN (l : List Nat) (q : Int) : Bool := decide (0 ≤ q ∧ q.toNat ∈ l)
theorem inN_nil : inN [] = fun _ => false := by funext q; simp [inN]
theorem inN_snoc (l : List Nat) (i : Nat) : inN (l ++ [i]) = fun q => inN l q || decide (q = (i : Int)) := by
  funext q
  unfold inN
  rw [Bool.eq_iff_iff]
  simp only [List.mem_append, List.mem_singleton, Bool.or_eq_true, decide_eq_true_eq]
  constructor
  · rintro ⟨h, h2 | h2⟩
    · exact .inl ⟨h, h2⟩
    · exact .inr (by omega)
  · rintro (⟨h, h2⟩ | h)
    · exact ⟨h, .inl h2⟩
    · subst h; exact ⟨by omega, .inr (by simp)⟩
theorem mem_ones {R : Nat → Bool} {n i : Nat} : i ∈ onesL R n ↔ i < n ∧ R i = true := by simp [onesL]

set_option maxHeartbeats 16000000 in
set_option maxRecDepth 100000 in
theorem all_walk (w : World) (n : Int) (v : Value) (l : List Edge) (r a : Int) (hv : RE w v l) :
    Calls Try.prog 5 #[.int .i64 n, v, .int .i64 r, .int .i64 a] w fun e w' => e = .returned (.bool true) ∧ Below w.heap.size w w' := by
  have HV := Lib.hid hv
  obtain ⟨ad, m, cap, rfl, hn, hmax, hel⟩ := hv
  have HN := Lib.hid hn
  have HEL := Lib.hid hel
  clear hn hel
  by_cases hbig : 60 < n
  · skip
    go_enter Try.func5, Try.ntmps5
    go_wp2_with fail
    refine (live_any _).mono ?_
    rintro e w1 ⟨rfl, hb⟩
    have HB := Lib.hid hb
    clear hb
    go_wp2
    go_ret
    exact ⟨rfl, HB.out⟩
  by_cases hbig1 : n < 1
  · skip
    go_enter Try.func5, Try.ntmps5
    go_wp2_with fail
    refine (live_any _).mono ?_
    rintro e w1 ⟨rfl, hb⟩
    have HB := Lib.hid hb
    clear hb
    go_wp2
    go_ret
    exact ⟨rfl, HB.out⟩
  by_cases hbig2 : 400 < m
  · skip
    go_enter Try.func5, Try.ntmps5
    go_wp2_with fail
    refine (live_any _).mono ?_
    rintro e w1 ⟨rfl, hb⟩
    have HB := Lib.hid hb
    clear hb
    go_wp2
    go_ret
    exact ⟨rfl, HB.out⟩
  obtain ⟨N, rfl⟩ : ∃ N : Nat, n = N := ⟨n.toNat, by omega⟩
  go_enter Try.func5, Try.ntmps5
  go_wp2_with fail
  refine (live_any _).mono ?_
  rintro e w1 ⟨rfl, hb⟩
  have HB1 := Lib.hid hb
  clear hb
  go_wp2_with fail
  refine (refCheck_any _ _ _ _ (HV.out.below HB1.out)).mono ?_
  cases hG : graphB N l with
  | false =>
    rintro e w2 ⟨rfl, hb⟩
    have HB2 : Hid (Below w.heap.size w w2) := HB1.out.trans (hb.mono HB1.out.size)
    clear hb hG
    simp only [edgeErr]
    go_wp2
    go_ret
    exact ⟨rfl, HB2.out⟩
  | true =>
    rintro e w2 ⟨rfl, hb⟩
    have HB2 : Hid (Below w.heap.size w w2) := HB1.out.trans (hb.mono HB1.out.size)
    have HG := Lib.hid hG
    obtain ⟨s, hs, es⟩ := mod_in r N (by omega) (by omega)
    obtain ⟨a', ha', ea⟩ := mod_in a N (by omega) (by omega)
    have ES := Lib.hid es
    have EA := Lib.hid ea
    have hml : l.length ≤ 1000000 := by rw [HN.out]; omega
    have HML := Lib.hid hml
    clear hb hG HB1 es ea hml
    simp only [edgeErr]
    go_upto_region 6 with (fail)
    rw [ES.out, EA.out]
    go_wp2_with fail
    refine (tree_any _ _ _ _ _ (HV.out.below HB2.out) HML.out).mono ?_
    rintro e w3 ⟨hb3, h | h | h⟩
    · have h1 := h.1
      rw [HG.out] at h1
      cases h1
    · exact absurd ⟨by omega, by omega⟩ h.2.1
    obtain ⟨-, N', s', E, u, ub, eN, eS, -, hN, rfl, hed, ht, rfl, hrow⟩ := h
    obtain rfl : N = N' := by omega
    obtain rfl : s = s' := by omega
    have HB3 : Hid (Below w.heap.size w w3) := HB2.out.trans (hb3.mono HB2.out.size)
    have HT3 := Lib.hid (RI.of_tree hrow (by omega))
    have HT := Lib.hid ht
    have hlt : ∀ i, Rch E s i → i < N := fun i h => rch_lt hs hed h
    have HLT := Lib.hid hlt
    have HED := Lib.hid hed
    have hEl : E.length ≤ 1000000 := by have := HML.out; rwa [List.length_map] at this
    have HLEN := Lib.hid hEl
    clear hb3 eN eS hed ht hrow hlt HB2 hEl
    go_wp2_with fail
    refine (reach_one _ N (by omega) _ E HLEN.out (HV.out.below (HB3.out.alloc HB3.out.size _)) HG.out HED.out w3.heap.size s hs (by simp)).mono ?_
    rintro e w4 ⟨v12, R, rfl, hR, hO4⟩
    have HB34 : Hid (Below w3.heap.size w3 w4) := ((Below.refl _ _).alloc (Nat.le_refl _) _).trans (hO4.below.mono (by simp))
    have HB4 : Hid (Below w.heap.size w w4) := HB3.out.trans (HB34.out.mono HB3.out.size)
    have HT4 : Hid (RI w4 _ _) := HT3.out.below HB34.out
    have HA4 := Lib.hid (RI.of_Own hO4)
    have HR := Lib.hid hR
    clear hR hO4 HB34 HT3 HB3
    obtain ⟨F, hF⟩ : ∃ F, lessE E a' = F := ⟨_, rfl⟩
    have HF : Hid ((E.map toE).filter (keepB a') = F.map toE) := by
      show (E.map toE).filter (keepB a') = F.map toE
      rw [lessE_map, hF]
    have HFG : Hid (graphB N (F.map toE) = true) := by
      show graphB N (F.map toE) = true
      rw [← hF]; exact less_graph a' HG.out
    have HFE : Hid (∀ e ∈ F, e.1 < N ∧ e.2 < N) := fun e he => HED.out e (less_mem (hF ▸ he))
    have HFL : Hid (F.length ≤ 1000000) := by
      show F.length ≤ 1000000
      rw [← hF]; exact Nat.le_trans (less_len E a') HLEN.out
    have HFR : Hid (∀ b, a' ≠ s → (Rch F s b ↔ RchA E s a' b)) := fun b h => by rw [← hF]; exact rch_less h
    clear hF
    go_wp2
    go_loopw [14, 74] (fun v14 v74 wr => ∃ j : Nat, j ≤ m ∧ v74 = .int .i64 j ∧ Hid (Own w4 wr 36 2 v14 (((E.map toE).take j).filter (keepB a')).length (cellsE (((E.map toE).take j).filter (keepB a'))))) (fun _ v74 _ => m - (intOf v74).toNat)
    case atStart => exact ⟨0, by omega, rfl, Own.start _ _ _⟩
    case round =>
      obtain ⟨j, hj, rfl, HO⟩ := hrel
      by_cases hlt : j < m
      · obtain ⟨x, hx⟩ : ∃ x, (E.map toE)[j]? = some x := ⟨_, List.getElem?_eq_getElem (by rw [HN.out]; exact hlt)⟩
        have HX := Lib.hid hx
        obtain ⟨b, off, rfl, hbl, hc0, hc1⟩ := HEL.out j _ HX.out
        have HBR : Hid (Below w.heap.size w wr) := HB4.out.trans (HO.out.below.mono HB4.out.size)
        have d0 : wr.cell? ⟨b, off + j * 2, none⟩ = some (.int .i64 x.fr) := (HBR.out.cell (p := ⟨b, off + j * 2, none⟩) hbl).trans hc0
        have d1 : wr.cell? ⟨b, off + j * 2 + 1, none⟩ = some (.int .i64 x.to) := (HBR.out.cell (p := ⟨b, off + j * 2 + 1, none⟩) hbl).trans hc1
        have HKT := Lib.hid (keep_take (a := (a' : Int)) hx)
        clear hc0 hc1 hx
        obtain ⟨xf, xt⟩ := x
        by_cases hq : xf = a' ∨ xt = a'
        · have hk : keepB a' ⟨xf, xt⟩ = false := by unfold keepB; simp; omega
          have HO2 : Hid (∀ o, Own w4 (wr.alloc o) 36 2 u14 (((E.map toE).take (j + 1)).filter (keepB a')).length (cellsE (((E.map toE).take (j + 1)).filter (keepB a')))) := fun o => by
            rw [HKT.out, hk]
            simpa using HO.out.alloc o
          clear HKT HO
          by_cases h1 : xf = a'
          · have e1 : (xf != (a' : Int)) = false := by simpa using h1
            clear h1 hq hk
            go_wp2
            exact ⟨⟨j + 1, by omega, by go_num, HO2.out _⟩, by simp [intOf]; omega⟩
          · have e1 : (xf != (a' : Int)) = true := by simpa using h1
            have e2 : (xt != (a' : Int)) = false := by simp; omega
            clear h1 hq hk
            go_wp2
            exact ⟨⟨j + 1, by omega, by go_num, HO2.out _⟩, by simp [intOf]; omega⟩
        · have hk : keepB a' ⟨xf, xt⟩ = true := by unfold keepB; simp; omega
          have e1 : (xf != (a' : Int)) = true := by simp; omega
          have e2 : (xt != (a' : Int)) = true := by simp; omega
          have HKT2 : Hid (((E.map toE).take (j + 1)).filter (keepB a') = ((E.map toE).take j).filter (keepB a') ++ [⟨xf, xt⟩]) := by
            have h := HKT.out
            rw [hk, if_pos rfl] at h; exact h
          have hlen : (((E.map toE).take j).filter (keepB a')).length ≤ 1000000000000 := by
            have h1 := List.length_filter_le (keepB a') ((E.map toE).take j)
            have h2 : ((E.map toE).take j).length ≤ j := List.length_take_le _ _
            omega
          clear HKT hq hk
          obtain ⟨a5, c5, rfl⟩ := HO.out.shape
          go_wp2_with (at_builtin; (refine push_edge rfl _ _ rfl rfl (HO.out.alloc _) rfl (by simp) hlen ?_)
                       intro g c w5 hO5 hg5 hat5
                       have HO5 := Lib.hid hO5
                       clear hO5 hg5 hat5)
          exact ⟨⟨j + 1, by omega, by go_num, by rw [HKT2.out]; exact HO5.out⟩, by simp [intOf]; omega⟩
      · obtain rfl : m = j := by omega
        have HO2 : Hid (Own w4 wr 36 2 u14 (F.map toE).length (cellsE (F.map toE))) := by
          have h := HO.out
          rw [List.take_of_length_le (by rw [HN.out]; exact Nat.le_refl _), HF.out] at h
          exact h
        obtain ⟨w5, rfl⟩ : ∃ w5 : World, w5 = wr := ⟨_, rfl⟩
        have HRE5 : Hid (RE w5 u14 (F.map toE)) := RE.of_Own HO2.out (by have := HFL.out; rw [List.length_map]; omega)
        have HB45 : Hid (Below w4.heap.size w4 w5) := HO2.out.below
        have HT5 : Hid (RI w5 _ _) := HT4.out.below HB45.out
        have HA5 : Hid (RI w5 _ _) := HA4.out.below HB45.out
        have HB5 : Hid (Below w.heap.size w w5) := HB4.out.trans (HB45.out.mono HB4.out.size)
        clear HO HO2 HT4 HA4 HB4 HB45
        go_wp2_with fail
        refine (reach_one _ N (by omega) _ F HFL.out (HRE5.out.below (by go_grown)) HFG.out HFE.out w5.heap.size s hs (by simp)).mono ?_
        rintro e w6 ⟨v17, R2, rfl, hR2, hO6⟩
        have HB56 : Hid (Below w5.heap.size w5 w6) := ((Below.refl _ _).alloc (Nat.le_refl _) _).trans (hO6.below.mono (by simp))
        have HB6 : Hid (Below w.heap.size w w6) := HB5.out.trans (HB56.out.mono HB5.out.size)
        have HT6 : Hid (RI w6 _ _) := HT5.out.below HB56.out
        have HA6 : Hid (RI w6 _ _) := HA5.out.below HB56.out
        have HL6 := Lib.hid (RI.of_Own hO6)
        have HR2 := Lib.hid hR2
        clear hR2 hO6 HB56 HT5 HA5 HB5 HRE5
        obtain ⟨ones2, hones2⟩ : ∃ o2, onesL R2 N = o2 := ⟨_, rfl⟩
        rw [hones2] at HL6
        have HON2 : Hid (∀ i, i ∈ ones2 ↔ Rch F s i) := fun i => by
          rw [← hones2, mem_ones, HR2.out]
          exact ⟨fun h => h.2, fun h => ⟨rch_lt hs HFE.out h, h⟩⟩
        have HO2L : Hid (ones2.length ≤ N) := by
          show ones2.length ≤ N
          rw [← hones2]; exact onesL_len _ _
        clear hones2 HR2
        obtain ⟨a17, n17, c17, rfl, hn17, hm17, hel17⟩ := HL6.out
        rw [intsN_len] at hn17
        have HN17 := Lib.hid hn17
        have HEL17 := Lib.hid hel17
        have hn17b : n17 ≤ N := by have := HO2L.out; omega
        clear hn17 hel17 HL6
        have hmm := @run_makeMap Try.prog
        obtain ⟨mb, hmb⟩ : ∃ mb, mb = w6.heap.size := ⟨_, rfl⟩
        have M0 : Hid (MB (w6.alloc (.map #[] 0)) mb 0 (inN (ones2.take 0))) := by rw [hmb, List.take_zero, inN_nil]; exact MB.made w6
        have BM0 : Hid (Below w6.heap.size w6 (w6.alloc (.map #[] 0))) := (Below.refl _ _).alloc (Nat.le_refl _) _
        have LM : w6.heap.size ≤ mb := by omega
        have HMB := Lib.hid hmb
        clear hmb
        go_wp2
        rw [← HMB.out]
        clear hmm
        go_loopw [104] (fun v104 wr => ∃ k : Nat, k ≤ n17 ∧ v104 = .int .i64 k ∧ Hid (MB wr mb k (inN (ones2.take k))) ∧ Hid (Below w6.heap.size w6 wr)) (fun v104 _ => n17 - (intOf v104).toNat)
        case atStart => exact ⟨0, by omega, rfl, M0, BM0⟩
        case round =>
          clear M0 BM0
          obtain ⟨k, hk, rfl, HM, HB⟩ := hrel
          by_cases hlt : k < n17
          · obtain ⟨i, hi⟩ : ∃ i, ones2[k]? = some i := ⟨_, List.getElem?_eq_getElem (by rw [HN17.out]; exact hlt)⟩
            obtain ⟨b, off, rfl, hbl, hc⟩ := HEL17.out k (i : Int) (by rw [intsN, List.getElem?_map, hi]; rfl)
            have d0 := (HB.out.cell (p := ⟨b, off + k, none⟩) hbl).trans hc
            have hiN := rch_lt hs HFE.out ((HON2.out i).1 (List.mem_of_getElem? hi))
            obtain ⟨w7, hrun, hm7, hg7⟩ := HM.out.put (i := (i : Int)) (by unfold maxLen; omega) (by go_wf2)
            have HM7 : Hid (MB w7 mb (k + 1) (inN (ones2.take (k + 1)))) := by
              show MB w7 mb (k + 1) (inN (ones2.take (k + 1)))
              rw [List.take_add_one, hi]
              simp only [Option.toList_some]
              rw [inN_snoc]; exact hm7
            have HB7 : Hid (Below w6.heap.size w6 w7) := HB.out.grown hg7 HB.out.size (fun q hq => by cases hq; exact LM)
            clear hi hbl hc hm7 hg7
            go_wp2
            exact ⟨⟨k + 1, by omega, by go_num, HM7, HB7⟩, by simp [intOf]; omega⟩
          · obtain rfl : n17 = k := by omega
            have HM2 : Hid (MB wr mb n17 (inN ones2)) := by
              have h := HM.out
              rwa [List.take_of_length_le (by rw [HN17.out]; exact Nat.le_refl _)] at h
            obtain ⟨w7, rfl⟩ : ∃ w7 : World, w7 = wr := ⟨_, rfl⟩
            have HB7 : Hid (Below w.heap.size w w7) := HB6.out.trans (HB.out.mono HB6.out.size)
            have HT7 : Hid (RI w7 _ _) := HT6.out.below HB.out
            have HA7 : Hid (RI w7 _ _) := HA6.out.below HB.out
            clear HM HB HT6 HA6 HB6 HEL17
            obtain ⟨ones, hones⟩ : ∃ o, onesL R N = o := ⟨_, rfl⟩
            rw [hones] at HA7
            have HON : Hid (∀ i ∈ ones, Rch E s i) := fun i hi => by
              rw [← hones, mem_ones, HR.out] at hi
              exact hi.2
            have hol : ones.length ≤ N := by rw [← hones]; exact onesL_len _ _
            obtain ⟨a12, n12, c12, rfl, hn12, hm12, hel12⟩ := HA7.out
            rw [intsN_len] at hn12
            have HN12 := Lib.hid hn12
            have HEL12 := Lib.hid hel12
            have hn12b : n12 ≤ N := by omega
            have hLL : (upL s u N).length ≤ 1000000 := by rw [upL_len]; omega
            have HLL := Lib.hid hLL
            clear hn12 hel12 HA7 hones hol hLL
            go_wp2
            go_loopw [115] (fun v115 wr => ∃ k : Nat, k ≤ n12 ∧ v115 = .int .i64 k ∧ Hid (Below w7.heap.size w7 wr)) (fun v115 _ => n12 - (intOf v115).toNat)
            case atStart => exact ⟨0, by omega, rfl, Below.refl _ _⟩
            case round =>
              obtain ⟨k, hk, rfl, HB⟩ := hrel
              by_cases hlt : k < n12
              · obtain ⟨i, hi⟩ : ∃ i, ones[k]? = some i := ⟨_, List.getElem?_eq_getElem (by rw [HN12.out]; exact hlt)⟩
                obtain ⟨b, off, rfl, hbl, hc⟩ := HEL12.out k (i : Int) (by rw [intsN, List.getElem?_map, hi]; rfl)
                have d0 := (HB.out.cell (p := ⟨b, off + k, none⟩) hbl).trans hc
                have hri := HON.out i (List.mem_of_getElem? hi)
                have hiN := HLT.out i hri
                have HRI := Lib.hid hri
                have hob := overB_dom HT.out HLT.out ha' hri
                have HOB := Lib.hid hob
                clear hi hbl hc hri hob
                go_wp2_with fail
                refine (domOver_any _ _ _ _ _ (HT7.out.below HB.out) HLL.out).mono ?_
                by_cases hai : a' = i
                · subst hai
                  have ho : overB (upL s u N) a' a' = true := HOB.out.2 (dom_self HRI.out)
                  rw [ho]
                  clear ho
                  rintro e w8 ⟨rfl, hb⟩
                  have HB8 : Hid (Below w7.heap.size w7 w8) := HB.out.trans (hb.mono HB.out.size)
                  clear hb
                  go_wp2
                  exact ⟨⟨k + 1, by omega, by go_num, HB8⟩, by simp [intOf]; omega⟩
                by_cases has : a' = s
                · subst has
                  have ho : overB (upL a' u N) a' i = true := HOB.out.2 (dom_root HRI.out)
                  rw [ho]
                  clear ho
                  rintro e w8 ⟨rfl, hb⟩
                  have HB8 : Hid (Below w7.heap.size w7 w8) := HB.out.trans (hb.mono HB.out.size)
                  clear hb
                  go_wp2
                  exact ⟨⟨k + 1, by omega, by go_num, HB8⟩, by simp [intOf]; omega⟩
                have x1 : ((a' : Int) == (i : Int)) = false := by simp; omega
                have x2 : ((a' : Int) == (s : Int)) = false := by simp; omega
                obtain ⟨q, hq⟩ : ∃ q, inN ones2 i = q := ⟨_, rfl⟩
                have hq2 : q = true ↔ RchA E s a' i := by
                  rw [← hq, ← HFR.out i has, ← HON2.out i]
                  unfold inN
                  simp
                have ho : overB (upL s u N) a' i = !q := by
                  cases q with
                  | true =>
                    rw [Bool.not_true, Bool.eq_false_iff]
                    intro h
                    exact (HOB.out.1 h).2 (hq2.1 rfl)
                  | false => exact HOB.out.2 ⟨HRI.out, fun h => by have := hq2.2 h; cases this⟩
                rw [ho]
                have HQ := Lib.hid hq
                clear ho hq2 hq
                rintro e w8 ⟨rfl, hb⟩
                have HB8 : Hid (Below w7.heap.size w7 w8) := HB.out.trans (hb.mono HB.out.size)
                have hlook := (HM2.out.below HB8.out).look (i := (i : Int)) (by go_wf2)
                rw [HQ.out] at hlook
                clear hb
                cases q with
                | true =>
                  go_wp2
                  exact ⟨⟨k + 1, by omega, by go_num, HB8⟩, by simp [intOf]; omega⟩
                | false =>
                  go_wp2
                  exact ⟨⟨k + 1, by omega, by go_num, HB8⟩, by simp [intOf]; omega⟩
              · have HBE : Hid (Below w.heap.size w wr) := HB7.out.trans (HB.out.mono HB7.out.size)
                go_wp2
                go_ret
                exact ⟨rfl, HBE.out⟩
open Go.ChangeShapes Go.WideShapes Go.ChangeAt Go.RowKit
open Go.ChangeMaps (open_string shut_string)
set_option linter.unusedVariables false
theorem own : ownKnob Try.prog.godebug = none := by kernel_rfl
theorem laidOut : laidOutB Try.prog = true := by kernel_rfl
set_option maxRecDepth 100000 in
theorem domAll_lifted (os : Os) (started : os.Started) (H : Type) (enc : TypeId × Value → H) :
    ReturnsInHanded {} Try.checked os 5 .any (Rows.domAllSpec.pre6 enc Try.prog Try.f5 Rows.domAllRow.domain false) (Rows.domAllSpec.post enc Try.prog Try.f5 false true false false) := by
  refine returnsInHanded_of_change_shaped (C := Try.checked) own started (by kernel_rfl) Try.func5
    (ChangeSpec.witness6 (enc := enc) (C := Try.checked) false ⟨#[], #[.int .i64 0, .slice none 0 0, .int .i64 0, .int .i64 0], []⟩ 8 (by kernel_rfl) (by kernel_rfl) (by kernel_rfl) (by kernel_rfl)) ?_
  intro W base args ds gs before hval0 hW hcnd hsz0 hsh _
  have hval : ∀ (j : Nat) t v, Try.f5.params[j]? = some t → args[j]? = some v → Value.okWide Try.prog W .any base t v := hval0
  have hW' := hW
  obtain ⟨p, q, hA0, hV, rfl, hfz, hnd⟩ := hW
  have hA : DataW.TrodAll enc Try.prog W 0 (fun _ => true) true Try.f5.params.toList args.toList ds p := hA0
  have hsz : ∀ n ∈ DataW.weightsEach Try.prog (Try.f5.params.toList ++ Rows.domAllSpec.plain.varTypes Try.prog) (ds ++ gs), n ≤ reachBytes := fun n hn => of_decide_eq_true (List.all_eq_true.1 hsz0 n hn)
  rw [Try.params5] at hA hval hsz
  clear hsz0
  obtain ⟨v0, vs0, d0, ds0, p0, q0, hargs, rfl, rfl, h0, r0⟩ := trodAll_cons hA
  obtain ⟨v1, vs1, d1, ds1, p1, q1, rfl, rfl, rfl, h1, r1⟩ := trodAll_cons r0
  obtain ⟨v2, vs2, d2, ds2, p2, q2, rfl, rfl, rfl, h2, r2⟩ := trodAll_cons r1
  obtain ⟨v3, vs3, d3, ds3, p3, q3, rfl, rfl, rfl, h3, r3⟩ := trodAll_cons r2
  obtain ⟨rfl, rfl, rfl⟩ := trodAll_nil r3
  obtain rfl : args = #[v0, v1, v2, v3] := by cases args; simp_all
  obtain ⟨rfl, rfl⟩ := trodVars_none hV
  clear hA0 hval0
  simp only [List.append_nil] at hW'
  have k0 := h0
  have lt0 : ∀ x ∈ p0, x.block < W.heap.size := by obtain ⟨m, hm⟩ := k0; exact DataW.trod_lt m _ _ _ hm
  have k1 := h1
  have lt1 : ∀ x ∈ p1, x.block < W.heap.size := by obtain ⟨m, hm⟩ := k1; exact DataW.trod_lt m _ _ _ hm
  have k2 := h2
  have lt2 : ∀ x ∈ p2, x.block < W.heap.size := by obtain ⟨m, hm⟩ := k2; exact DataW.trod_lt m _ _ _ hm
  have k3 := h3
  have lt3 : ∀ x ∈ p3, x.block < W.heap.size := by obtain ⟨m, hm⟩ := k3; exact DataW.trod_lt m _ _ _ hm
  have fit1 : Fits Try.prog 22 d1 := fun n hn => hsz n (DataW.weights_mem_each (j := 1) rfl rfl n hn)
  obtain ⟨sa1, sn1, sc1, rfl⟩ := okWide_slice Try.underlying22 (hval 1 22 v1 rfl rfl)
  obtain ⟨rn1, h1⟩ := h1
  obtain ⟨rv1, l1, re1, R1⟩ := read_edges fit1 h1
  obtain rfl : rv1 = _ := by simpa [Value.cells] using re1.symm
  obtain ⟨z0, rfl⟩ := okWide_int Try.underlying3 (hval 0 3 v0 rfl rfl)
  obtain ⟨rn0, h0⟩ := h0
  obtain ⟨ra0, re0, wf0⟩ := read_int h0
  obtain rfl : ra0 = z0 := by simpa [Value.cells] using re0.symm
  obtain ⟨z2, rfl⟩ := okWide_int Try.underlying3 (hval 2 3 v2 rfl rfl)
  obtain ⟨rn2, h2⟩ := h2
  obtain ⟨ra2, re2, wf2⟩ := read_int h2
  obtain rfl : ra2 = z2 := by simpa [Value.cells] using re2.symm
  obtain ⟨z3, rfl⟩ := okWide_int Try.underlying3 (hval 3 3 v3 rfl rfl)
  obtain ⟨rn3, h3⟩ := h3
  obtain ⟨ra3, re3, wf3⟩ := read_int h3
  obtain rfl : ra3 = z3 := by simpa [Value.cells] using re3.symm
  refine (all_walk W _ _ l1 _ _ (RE.of_rsl R1)).mono fun e W' ⟨he, bel⟩ => ?_
  subst he
  exact ⟨_, rfl, _, _, _, [], _, [], hW', trodAll_mk1 (shut_bool Try.underlying4 _), trodAll_cons_mk (Below.trod laidOut (by kernel_rfl) (of_decide_eq_true (by kernel_rfl)) k0 bel lt0) (trodAll_cons_mk (Below.trod laidOut (by kernel_rfl) (of_decide_eq_true (by kernel_rfl)) k1 bel lt1) (trodAll_cons_mk (Below.trod laidOut (by kernel_rfl) (of_decide_eq_true (by kernel_rfl)) k2 bel lt2) (trodAll_cons_mk (Below.trod laidOut (by kernel_rfl) (of_decide_eq_true (by kernel_rfl)) k3 bel lt3) trodAll_mk0))), rfl, bel.frame _, fun h => by cases h⟩

theorem domAll_holds : Rows.DomAllSaid :=
  OpenClaim.holds_of_wide 5 Try.f5 rfl rfl rfl rfl rfl rfl rfl ⟨rfl, rfl, rfl, rfl, rfl⟩ rfl rfl rfl rfl rfl (by kernel_rfl) Try.func5 (by kernel_rfl)
    (of_decide_eq_true (by kernel_rfl)) (by unfold Func.isWrapper; first | (rw [if_pos (by decide +kernel)]; kernel_rfl) | (rw [if_neg (by decide +kernel)]; exact ⟨rfl, rfl⟩))
    (fun os started H enc _ => domAll_lifted os started H enc)
#print axioms domAll_holds
end Go.Proofs.Ytapdapidnnkpmaa
