/- BitsBack: the walk through the law. -/
import Derived.Test.YtgceaicokacgjaaDoorLives
import Derived.Test.YtgceaicokacgjaaDoorMapB
namespace Go.Proofs.YtgceaicokacgjaaDoor
open Go.RowKit

/-- What is left of a set when some numbers are taken out. -/
def without (f : Nat → Bool) (l : List Int) : Nat → Bool := l.foldl (fun f i => delI f i) f
theorem without_snoc (f : Nat → Bool) (l : List Int) (x : Int) : without f (l ++ [x]) = delI (without f l) x := by simp [without]
theorem addI_eq (f : Nat → Bool) (n : Nat) (i : Int) (q : Nat) : addI f n i q = (f q || (decide (q < n) && decide ((q : Int) = i))) := by
  unfold addI canAdd
  by_cases h : decide (0 ≤ i) && decide (i < n) && !f i.toNat
  · rw [if_pos h]
    simp only [Bool.and_eq_true, decide_eq_true_eq] at h
    obtain ⟨⟨h0, h1⟩, -⟩ := h
    unfold addF
    congr 1
    rw [Bool.eq_iff_iff]; simp; omega
  · rw [if_neg h]
    cases hf : f q with
    | true => simp
    | false =>
      have : ¬ (q < n ∧ (q : Int) = i) := by
        rintro ⟨h1, rfl⟩
        apply h
        simp [hf, h1]
      rw [Bool.false_or]
      symm
      rw [← Bool.decide_and, decide_eq_false_iff_not]
      exact this
theorem delI_eq (f : Nat → Bool) (i : Int) (q : Nat) : delI f i q = (f q && decide ((q : Int) ≠ i)) := by
  unfold delI inB
  by_cases h : decide (0 ≤ i) && f i.toNat
  · rw [if_pos h]
    simp only [Bool.and_eq_true, decide_eq_true_eq] at h
    unfold delF
    congr 1
    rw [Bool.eq_iff_iff]; simp; omega
  · rw [if_neg h]
    cases hf : f q with
    | false => simp
    | true =>
      have : (q : Int) ≠ i := by
        rintro rfl
        apply h
        simp [hf]
      simp [this]
/-- The same in ints, as the law's map has it. -/
def goneS (S : Int → Bool) (l : List Int) : Int → Bool := l.foldl (fun S i q => S q && decide (q ≠ i)) S
theorem goneS_snoc (S : Int → Bool) (l : List Int) (x : Int) : goneS S (l ++ [x]) = fun q => goneS S l q && decide (q ≠ x) := by simp [goneS]
def putS (S : Int → Bool) (i : Int) : Int → Bool := fun q => S q || decide (q = i)
def inS (l : List Int) : Int → Bool := l.foldl (fun S i => if 0 ≤ i ∧ i < 200 then putS S i else S) (fun _ => false)
theorem inS_snoc (l : List Int) (x : Int) : inS (l ++ [x]) = if 0 ≤ x ∧ x < 200 then putS (inS l) x else inS l := by simp [inS]
theorem inS_from : ∀ (l : List Int) (q : Int), inS l.reverse q = inB (fromL 200 l.reverse) q
  | [], q => by simp [inS, inB, fromL]
  | x :: l, q => by
    have ih := inS_from l q
    rw [List.reverse_cons, inS_snoc, fromL_snoc]
    unfold inB at ih ⊢
    rw [addI_eq]
    split
    · rename_i h
      unfold putS
      rw [ih]
      by_cases hq : 0 ≤ q
      · obtain ⟨m, rfl⟩ := Int.eq_ofNat_of_zero_le hq
        simp only [Int.toNat_natCast, hq, decide_true, Bool.true_and]
        by_cases e : (m : Int) = x
        · subst e; simp; right; omega
        · simp [e]
      · have : q ≠ x := by omega
        simp [hq, this]
    · rename_i h
      rw [ih]
      by_cases hq : 0 ≤ q
      · obtain ⟨m, rfl⟩ := Int.eq_ofNat_of_zero_le hq
        simp only [Int.toNat_natCast, hq, decide_true, Bool.true_and]
        have : ¬ (m < 200 ∧ (m : Int) = x) := by rintro ⟨h1, rfl⟩; apply h; omega
        have e : (decide (m < 200) && decide ((m : Int) = x)) = false := by rw [← Bool.decide_and, decide_eq_false_iff_not]; exact this
        rw [e, Bool.or_false]
      · simp [hq]
theorem goneS_from (f : Nat → Bool) (S : Int → Bool) (h : ∀ q, S q = inB f q) : ∀ (l : List Int) (q : Int), goneS S l.reverse q = inB (without f l.reverse) q
  | [], q => h q
  | x :: l, q => by
    have ih := goneS_from f S h l q
    rw [List.reverse_cons, goneS_snoc, without_snoc]
    simp only [ih]
    unfold inB
    rw [delI_eq]
    by_cases hq : 0 ≤ q
    · obtain ⟨m, rfl⟩ := Int.eq_ofNat_of_zero_le hq
      simp
    · simp [hq]
theorem back_sets (a b : List Int) (q : Int) : goneS (inS a) b q = inB (without (fromL 200 a) b) q := by
  have h1 : ∀ q, inS a q = inB (fromL 200 a) q := fun q => by have := inS_from a.reverse q; rwa [List.reverse_reverse] at this
  have := goneS_from _ _ h1 b.reverse q
  rwa [List.reverse_reverse] at this
theorem elems_nodup (f : Nat → Bool) (n : Nat) : (elems f n).Nodup := List.nodup_range.filter _
theorem elems_ints (f : Nat → Bool) (n : Nat) (hlow : ∀ i, f i = true → i < n) : ((elems f n).map fun i : Nat => (i : Int)).Nodup ∧ ∀ q : Int, inB f q = true ↔ q ∈ (elems f n).map fun i : Nat => (i : Int) := by
  refine ⟨?_, fun q => ?_⟩
  · exact List.pairwise_map.2 ((elems_nodup f n).imp fun h e => h (by omega))
  · unfold inB elems
    rw [List.mem_map]
    constructor
    · intro h
      simp only [Bool.and_eq_true, decide_eq_true_eq] at h
      exact ⟨q.toNat, by rw [List.mem_filter, List.mem_range]; exact ⟨hlow _ h.2, h.2⟩, by omega⟩
    · rintro ⟨m, hm, rfl⟩
      rw [List.mem_filter] at hm
      simp [hm.2]
theorem elems_rising (f : Nat → Bool) (n : Nat) : (elems f n).Pairwise (· < ·) := List.pairwise_lt_range.filter _

theorem own_cell {w : World} {base : Nat} {t : TypeId} {v : Value} {l : List Nat} (h : w.ownsRow base t 1 v l.length (l.map fun i : Nat => Value.int .i64 (i : Int))) :
    ∃ a cap, v = .slice a l.length cap ∧ ∀ (k y : Nat), l[k]? = some y → ∃ g, a = some ⟨g, 0, none⟩ ∧ g < w.heap.size ∧ w.cell? ⟨g, k, none⟩ = some (.int .i64 y) := by
  obtain ⟨-, h⟩ := h
  rcases h with ⟨rfl, h0⟩ | ⟨g, cap, cur, rfl, hb, hg, h1, h2, h3, h4⟩
  · refine ⟨none, 0, by rw [h0], fun k y hk => ?_⟩
    have : l = [] := List.eq_nil_of_length_eq_zero h0
    subst this; simp at hk
  · refine ⟨some ⟨g, 0, none⟩, cap, rfl, fun k y hk => ⟨g, rfl, (Array.getElem?_eq_some_iff.1 hg).1, ?_⟩⟩
    have hi : k < l.length := (List.getElem?_eq_some_iff.1 hk).1
    have e : (cur.toList.take (l.length * 1))[k]? = some (.int .i64 (y : Int)) := by rw [h4, List.getElem?_map, hk]; rfl
    rw [List.getElem?_take, if_pos (by omega), Array.getElem?_toList] at e
    simp [World.cell?, hg, e]

theorem wf_small (n : Nat) (h : n < 1000000) : (Lit.int .i64 (n : Int)).wf = true := wf_nat n (by omega)

def lastOf (l : List Nat) (k : Nat) (z : Int) : Prop := ∀ y, l[k]? = some y → z < (y : Int)

set_option maxHeartbeats 4000000 in
theorem back_walk (w : World) (va vb : Value) (a b : List Int) (hT : TabIn w) (ha : RSl 1 RInt w (· < w.heap.size) va a) (hb : RSl 1 RInt w (· < w.heap.size) vb b) :
    Calls Tryd.prog 3 #[va, vb] w fun e w' => e = .returned (.bool true) ∧ Below w.heap.size w w' := by
  have HA := Lib.hid ha
  have HB := Lib.hid hb
  have HT := Lib.hid hT
  obtain ⟨aa, na, ca, rfl, hna, hca, hma, hela⟩ := ha
  obtain ⟨ab, nb, cb, rfl, hnb, hcb, hmb, helb⟩ := hb
  have ELA := Lib.hid hela
  have ELB := Lib.hid helb
  have NA := Lib.hid hna
  have NB := Lib.hid hnb
  unfold maxS at hma hmb
  clear hT hna hnb hela helb
  go_enter Tryd.func3, Tryd.ntmps3
  go_wp2_with fail
  refine (live_any _ HT.out).mono ?_
  rintro e w0 ⟨rfl, hb0⟩
  have B0 := Lib.hid hb0
  clear hb0
  by_cases hbig : 300 < na ∨ 300 < nb
  · by_cases h1 : 300 < na
    · go_wp2
      go_ret
      exact ⟨rfl, B0.out⟩
    · have h2 : 300 < nb := by omega
      go_wp2
      go_ret
      exact ⟨rfl, B0.out⟩
  · have h1 : na ≤ 300 := by omega
    have h2 : nb ≤ 300 := by omega
    have d1 : decide (300 < (na : Int)) = false := by simp; omega
    have d2 : decide (300 < (nb : Int)) = false := by simp; omega
    clear hbig
    go_wp2_with fail
    refine (set_any 200 (by decide) _ a _ (HA.out.mono (fun k hk => Nat.lt_of_lt_of_le hk B0.out.size) (fun k hk => B0.out.block k hk) (fun _ _ _ h => h))).mono ?_
    rintro e w1 ⟨p, q, rfl, hs1, hp1, hq1, hb1⟩
    have S1 := Lib.hid hs1
    have B1 : Hid (Below w.heap.size w w1) := afterCall B0.out hb1
    have LQ : w.heap.size ≤ q := Nat.le_trans B0.out.size hq1
    clear hs1 hb1 hp1 hq1
    go_wp2
    go_loopw [33] (fun v33 wr => ∃ k : Nat, k ≤ nb ∧ v33 = .int .i64 k ∧ Hid (SetAt wr p q 200 (without (fromL 200 a) (b.take k))) ∧ Hid (Below w.heap.size w wr)) (fun v33 _ => nb - (intOf v33).toNat)
    case atStart => exact ⟨0, by omega, rfl, S1.out, B1.out⟩
    case round =>
      obtain ⟨k, hk, rfl, SR, BR⟩ := hrel
      by_cases hlt : k < nb
      · obtain ⟨x, hx⟩ : ∃ x, b[k]? = some x := ⟨_, List.getElem?_eq_getElem (by rw [NB.out]; exact hlt)⟩
        have HX := Lib.hid hx
        clear hx
        obtain ⟨b0, off, cs, rfl, hbl, hc, rfl, hwx⟩ := ELB.out k _ HX.out
        have hc := cellsAt_of_block (BR.out.block b0 hbl) hc
        obtain ⟨c0, -⟩ := hc
        rw [Nat.mul_one] at c0
        have HWX := Lib.hid hwx
        clear hwx
        go_wp2_with fail
        refine (del_any _ HWX.out _ _ _ _ _ SR.out).mono ?_
        rintro e w2 ⟨rfl, hs2, hg2⟩
        have S2 : Hid (SetAt w2 p q 200 (without (fromL 200 a) (b.take (k + 1)))) := by
          show SetAt w2 p q 200 (without (fromL 200 a) (b.take (k + 1)))
          rw [List.take_add_one, HX.out]
          simp only [Option.toList_some]
          rw [without_snoc]
          exact hs2
        have B2 : Hid (Below w.heap.size w w2) := below_grown BR.out hg2 LQ
        clear hs2 hg2
        go_wp2
        exact ⟨⟨k + 1, by omega, by go_num, S2, B2⟩, by simp [intOf]; omega⟩
      · obtain rfl : nb = k := by omega
        have SF : Hid (SetAt wr p q 200 (without (fromL 200 a) b)) := by
          have h := SR.out
          rw [List.take_of_length_le (by rw [NB.out]; exact Nat.le_refl _)] at h
          exact h
        have hmm := @run_makeMap Tryd.prog
        obtain ⟨wo, rfl⟩ : ∃ wo : World, wo = wr := ⟨_, rfl⟩
        have M0 : Hid (MB (wo.alloc (.map #[] 0)) wo.heap.size 0 (inS (a.take 0))) := MB.made wo
        have SF1 : Hid (SetAt (wo.alloc (.map #[] 0)) p q 200 (without (fromL 200 a) b)) := SF.out.below ((Below.refl _ _).alloc (Nat.le_refl _) _)
        have BF1 : Hid (Below w.heap.size w (wo.alloc (.map #[] 0))) := BR.out.alloc BR.out.size _
        have LM : w.heap.size ≤ wo.heap.size := BR.out.size
        have DP : Hid (p ≠ wo.heap.size ∧ q ≠ wo.heap.size) := ⟨Nat.ne_of_lt SF.out.lt.1, Nat.ne_of_lt SF.out.lt.2⟩
        clear SR
        obtain ⟨mb, hmb0⟩ : ∃ mb, mb = wo.heap.size := ⟨_, rfl⟩
        have MBE := Lib.hid hmb0
        rw [← hmb0] at M0 DP LM
        clear hmb0
        go_wp2
        go_loopw [44] (fun v44 wr => ∃ k : Nat, k ≤ na ∧ v44 = .int .i64 k ∧ Hid (MB wr wo.heap.size k (inS (a.take k))) ∧ Hid (SetAt wr p q 200 (without (fromL 200 a) b)) ∧ Hid (Below w.heap.size w wr)) (fun v44 _ => na - (intOf v44).toNat)
        case atStart => exact ⟨0, by omega, rfl, by rw [← MBE.out]; exact M0, SF1, BF1⟩
        case round =>
          obtain ⟨k, hk, rfl, MR, SR, BR2⟩ := hrel
          by_cases hlt : k < na
          · obtain ⟨x, hx⟩ : ∃ x, a[k]? = some x := ⟨_, List.getElem?_eq_getElem (by rw [NA.out]; exact hlt)⟩
            have HX := Lib.hid hx
            clear hx
            obtain ⟨b0, off, cs, rfl, hbl, hc, rfl, hwx⟩ := ELA.out k _ HX.out
            have hc := cellsAt_of_block (BR2.out.block b0 hbl) hc
            obtain ⟨c0, -⟩ := hc
            rw [Nat.mul_one] at c0
            have HI : Hid (inS (a.take (k + 1)) = if 0 ≤ x ∧ x < 200 then putS (inS (a.take k)) x else inS (a.take k)) := by
              show inS (a.take (k + 1)) = _
              rw [List.take_add_one, HX.out]
              simp only [Option.toList_some]
              rw [inS_snoc]
            by_cases hin : 0 ≤ x ∧ x < 200
            · obtain ⟨w3, hrun, hm3, hg3⟩ := MR.out.put (i := x) (by unfold maxLen; omega) hwx
              have M3 : Hid (MB w3 wo.heap.size (k + 1) (inS (a.take (k + 1)))) := by
                show MB w3 wo.heap.size (k + 1) (inS (a.take (k + 1)))
                rw [HI.out, if_pos hin]; exact hm3
              have S3 : Hid (SetAt w3 p q 200 (without (fromL 200 a) b)) := SR.out.keep (hg3.block p SR.out.lt.1 (fun e => DP.out.1 (by rw [MBE.out]; exact Option.some.inj e))) (hg3.block q SR.out.lt.2 (fun e => DP.out.2 (by rw [MBE.out]; exact Option.some.inj e)))
              have B3 : Hid (Below w.heap.size w w3) := below_grown BR2.out hg3 (by rw [← MBE.out]; exact LM)
              obtain ⟨i1, i2⟩ := hin
              clear hm3 hg3 hwx
              go_wp2
              exact ⟨⟨k + 1, by omega, by go_num, M3, S3, B3⟩, by simp [intOf]; omega⟩
            · have M3 : Hid (MB wr wo.heap.size (k + 1) (inS (a.take (k + 1)))) := by
                show MB wr wo.heap.size (k + 1) (inS (a.take (k + 1)))
                rw [HI.out, if_neg hin]
                obtain ⟨D, h1, h2⟩ := MR.out.own
                exact ⟨D, h1.mono (by omega), h2⟩
              by_cases i1 : 0 ≤ x
              · have i2 : 200 ≤ x := by omega
                clear hin
                go_wp2
                exact ⟨⟨k + 1, by omega, by go_num, M3, SR, BR2⟩, by simp [intOf]; omega⟩
              · clear hin
                have i2 : x < 0 := by omega
                go_wp2
                exact ⟨⟨k + 1, by omega, by go_num, M3, SR, BR2⟩, by simp [intOf]; omega⟩
          · obtain rfl : na = k := by omega
            have MF : Hid (MB wr wo.heap.size na (goneS (inS a) (b.take 0))) := by
              have h := MR.out
              rw [List.take_of_length_le (by rw [NA.out]; exact Nat.le_refl _)] at h
              exact h
            clear MR
            go_wp2
            go_loopw [59] (fun v59 wr => ∃ j : Nat, j ≤ nb ∧ v59 = .int .i64 j ∧ Hid (MB wr wo.heap.size na (goneS (inS a) (b.take j))) ∧ Hid (SetAt wr p q 200 (without (fromL 200 a) b)) ∧ Hid (Below w.heap.size w wr)) (fun v59 _ => nb - (intOf v59).toNat)
            case atStart => exact ⟨0, by omega, rfl, MF, SR, BR2⟩
            case round =>
              obtain ⟨j, hj, rfl, MR3, SR3, BR3⟩ := hrel
              by_cases hlt2 : j < nb
              · obtain ⟨x, hx⟩ : ∃ x, b[j]? = some x := ⟨_, List.getElem?_eq_getElem (by rw [NB.out]; exact hlt2)⟩
                have HX := Lib.hid hx
                clear hx
                obtain ⟨b0, off, cs, rfl, hbl, hc, rfl, hwx⟩ := ELB.out j _ HX.out
                have hc := cellsAt_of_block (BR3.out.block b0 hbl) hc
                obtain ⟨c0, -⟩ := hc
                rw [Nat.mul_one] at c0
                obtain ⟨w3, hrun, hm3, hg3⟩ := MR3.out.cut (i := x) hwx 0
                have M3 : Hid (MB w3 wo.heap.size na (goneS (inS a) (b.take (j + 1)))) := by
                  show MB w3 wo.heap.size na (goneS (inS a) (b.take (j + 1)))
                  rw [List.take_add_one, HX.out]
                  simp only [Option.toList_some]
                  rw [goneS_snoc]; exact hm3
                have S3 : Hid (SetAt w3 p q 200 (without (fromL 200 a) b)) := SR3.out.keep (hg3.block p SR3.out.lt.1 (fun e => DP.out.1 (by rw [MBE.out]; exact Option.some.inj e))) (hg3.block q SR3.out.lt.2 (fun e => DP.out.2 (by rw [MBE.out]; exact Option.some.inj e)))
                have B3 : Hid (Below w.heap.size w w3) := below_grown BR3.out hg3 (by rw [← MBE.out]; exact LM)
                clear hm3 hg3 hwx
                go_wp2
                exact ⟨⟨j + 1, by omega, by go_num, M3, S3, B3⟩, by simp [intOf]; omega⟩
              · obtain rfl : nb = j := by omega
                have MG : Hid (MB wr wo.heap.size na (inB (without (fromL 200 a) b))) := by
                  have h := MR3.out
                  rw [List.take_of_length_le (by rw [NB.out]; exact Nat.le_refl _)] at h
                  have e : goneS (inS a) b = inB (without (fromL 200 a) b) := by funext q; exact back_sets a b q
                  rw [e] at h
                  exact h
                clear MR3
                generalize without (fromL 200 a) b = f at *
                go_wp2_with fail
                refine (list_any _ _ _ _ _ (HT.out.keep BR3.out) SR3.out).mono ?_
                rintro e w4 ⟨v, rfl, ho4⟩
                have S4 : Hid (SetAt w4 p q 200 f) := SR3.out.below ho4.below
                have M4 : Hid (MB w4 wo.heap.size na (inB f)) := MG.out.below ho4.below
                have B4 : Hid (Below w.heap.size w w4) := BR3.out.trans (ho4.below.mono BR3.out.size)
                obtain ⟨av, cv, rfl, hcell⟩ := own_cell ho4.own
                have HCELL := Lib.hid hcell
                obtain ⟨hnd, hmem⟩ := elems_ints f 200 S4.out.low
                have HND := Lib.hid hnd
                have HMEM := Lib.hid hmem
                have hlen := elems_len f 200
                obtain ⟨m, hm⟩ : ∃ m, m = (elems f 200).length := ⟨_, rfl⟩
                have HM := Lib.hid hm
                rw [← hm] at hlen ⊢
                clear ho4 hcell hnd hmem hm
                go_wp2
                go_loop [14, 69] (fun v14 v69 => ∃ (j : Nat) (z : Int), j ≤ m ∧ v69 = .int .i64 j ∧ v14 = .int .i64 z ∧ Hid (lastOf (elems f 200) j z)) (fun _ v69 => m - (intOf v69).toNat)
                case atStart => exact ⟨0, -1, by omega, rfl, rfl, (fun y _ => by omega)⟩
                case round =>
                  obtain ⟨j, z, hj, rfl, rfl, HL⟩ := hrel
                  by_cases hlt3 : j < m
                  · obtain ⟨y, hy⟩ : ∃ y, (elems f 200)[j]? = some y := ⟨_, List.getElem?_eq_getElem (by rw [← HM.out]; exact hlt3)⟩
                    have HY := Lib.hid hy
                    clear hy
                    obtain ⟨g, rfl, hgl, hc⟩ := HCELL.out j y HY.out
                    have hzy : z < (y : Int) := HL.out y HY.out
                    have hyf : f y = true ∧ y < 200 := by
                      have := List.mem_of_getElem? HY.out
                      unfold elems at this
                      rw [List.mem_filter, List.mem_range] at this
                      exact ⟨this.2, this.1⟩
                    have hy2 := hyf.2
                    have hin : inB f (y : Int) = true := by unfold inB; simp [hyf.1]
                    have hlook := M4.out.look (i := (y : Int)) (wf_small y (by omega))
                    rw [hin] at hlook
                    have HIN := Lib.hid hin
                    have HN : Hid (lastOf (elems f 200) (j + 1) y) := fun y' hy' => by
                      have h1 := elems_rising f 200
                      rw [List.pairwise_iff_getElem] at h1
                      obtain ⟨l1, e1⟩ := List.getElem?_eq_some_iff.1 HY.out
                      obtain ⟨l2, e2⟩ := List.getElem?_eq_some_iff.1 hy'
                      have := h1 j (j + 1) l1 l2 (by omega)
                      omega
                    clear hin hyf
                    go_wp2_with (go_at_call 10; refine (has_any _ (wf_small y (by omega)) _ _ _ _ _ S4.out).mono ?_; rw [HIN.out]; rintro e w' ⟨rfl, rfl⟩)
                    go_round
                    case rel => exact ⟨j + 1, y, by omega, by go_num, rfl, HN⟩
                    case measure => simp [intOf]; omega
                  · obtain rfl : m = j := by omega
                    have hl1 : (Builtin.len_ #[27] 3 #[.map (some wo.heap.size)]).run Tryd.prog w4 = .ok (.int .i64 (m : Nat)) w4 := by
                      have := M4.out.len _ HND.out HMEM.out 3
                      rw [List.length_map, ← HM.out] at this
                      exact this
                    go_wp2_with fail
                    refine (len_any _ _ _ _ _ S4.out).mono ?_
                    rw [← HM.out]
                    rintro e w' ⟨rfl, rfl⟩
                    go_wp2_with fail
                    refine (list_any _ _ _ _ _ (HT.out.keep B4.out) S4.out).mono ?_
                    rintro e w5 ⟨v, rfl, ho5⟩
                    have B5 : Hid (Below w.heap.size w w5) := B4.out.trans (ho5.below.mono B4.out.size)
                    have hl2 : (Builtin.len_ #[27] 3 #[.map (some wo.heap.size)]).run Tryd.prog w5 = .ok (.int .i64 (m : Nat)) w5 := by
                      have := (M4.out.below ho5.below).len _ HND.out HMEM.out 3
                      rw [List.length_map, ← HM.out] at this
                      exact this
                    obtain ⟨av5, cv5, rfl, -⟩ := own_cell ho5.own
                    rw [← HM.out]
                    clear ho5
                    go_wp2
                    go_ret
                    exact ⟨rfl, B5.out⟩
end Go.Proofs.YtgceaicokacgjaaDoor
