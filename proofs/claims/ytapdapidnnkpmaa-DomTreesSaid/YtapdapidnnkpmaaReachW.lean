/- The reference's Reach, from one node. -/
import Derived.Test.YtapdapidnnkpmaaMarks
import Derived.Test.YtapdapidnnkpmaaOwn
namespace Go.Proofs.Ytapdapidnnkpmaa
open Go.RowKit

/-- The marked ones, rising. -/
def onesL (R : Nat → Bool) (k : Nat) : List Nat := (List.range k).filter R
theorem onesL_succ (R : Nat → Bool) (k : Nat) : onesL R (k + 1) = onesL R k ++ if R k = true then [k] else [] := by
  unfold onesL
  rw [List.range_succ, List.filter_append]
  by_cases h : R k = true <;> simp [h]
theorem onesL_len (R : Nat → Bool) (k : Nat) : (onesL R k).length ≤ k := by
  unfold onesL
  have := List.length_filter_le R (List.range k)
  simpa using this
def intsN (l : List Nat) : List Int := l.map fun i : Nat => (i : Int)
theorem intsN_len (l : List Nat) : (intsN l).length = l.length := by simp [intsN]

set_option maxHeartbeats 8000000 in
set_option maxRecDepth 100000 in
theorem reach_one (w : World) (n : Nat) (hn : n ≤ 100000) (v : Value) (E : List (Nat × Nat)) (hlen : E.length ≤ 1000000) (hv : RE w v (E.map toE)) (hG : graphB n (E.map toE) = true) (hed : ∀ e ∈ E, e.1 < n ∧ e.2 < n) (g s : Nat) (hs : s < n) (hg : w.cell? ⟨g, 0, none⟩ = some (.int .i64 s)) :
    Calls Try.prog 16 #[.int .i64 n, v, .slice (some ⟨g, 0, none⟩) 1 1] w fun e w' => ∃ (v' : Value) (R : Nat → Bool), e = .returned (.tuple #[v', .int .i64 0]) ∧ (∀ i, R i = true ↔ Rch E s i) ∧ Own w w' 3 1 v' (intsN (onesL R n)).length ((intsN (onesL R n)).map iI) := by
  have HV := Lib.hid hv
  have HG := Lib.hid hG
  have HED := Lib.hid hed
  have HC := Lib.hid hg
  have hb0 := cell_lt hg
  have hb0 : g < w.heap.size := hb0
  have HLEN := Lib.hid hlen
  clear hv hG hed hg hlen
  go_enter Try.func16, Try.ntmps16
  go_wp2_with fail
  refine (refCheck_any n v _ w HV.out).mono ?_
  rw [HG.out]
  rintro e w1 ⟨rfl, hb⟩
  have HB1 := Lib.hid hb
  clear hb
  simp only [edgeErr]
  go_wp2_with fail
  refine (nodes_any n _ [(s : Int)] w1 (RI.one (next HB1.out HC.out))).mono ?_
  have hnn : nodesB n [(s : Int)] = true := by unfold nodesB; simp; omega
  rw [hnn]
  clear hnn
  rintro e w' ⟨rfl, rfl⟩
  go_wp2_with fail
  refine (marks_any w1 n (by omega) v E HLEN.out (HV.out.below HB1.out) HED.out g s hs (next HB1.out HC.out)).mono ?_
  rintro e w2 ⟨ib, R, rfl, hR, hrow, hb⟩
  have HB2 : Hid (Below w.heap.size w w2) := HB1.out.trans (hb.mono HB1.out.size)
  have HR := Lib.hid hR
  have HROW := Lib.hid hrow
  clear hb hR hrow HB1
  go_wp2
  go_loopw [9, 27] (fun v9 v27 wr => ∃ k : Nat, k ≤ n ∧ v27 = .int .i64 k ∧ Hid (Own w wr 3 1 v9 (intsN (onesL R k)).length ((intsN (onesL R k)).map iI)) ∧ Hid (wr.rowIs ib 4 n (fun i => .bool (R i)))) (fun _ v27 _ => n - (intOf v27).toNat)
  case atStart => exact ⟨0, by omega, rfl, Own.begin HB2.out _ _, HROW.out⟩
  case round =>
    clear HROW
    obtain ⟨k, hk, rfl, HO, HROW⟩ := hrel
    by_cases hkn : k < n
    · have d0 := HROW.out.cell hkn
      have hs1 := onesL_succ R k
      cases hRk : R k with
      | false =>
        rw [hRk] at d0 hs1
        have HS : Hid (onesL R (k + 1) = onesL R k) := by
          show onesL R (k + 1) = onesL R k
          simpa using hs1
        clear hRk hs1
        go_wp2
        exact ⟨⟨k + 1, by omega, by go_num, by rw [HS.out]; exact HO, HROW⟩, by simp [intOf]; omega⟩
      | true =>
        rw [hRk] at d0 hs1
        have HS : Hid (intsN (onesL R (k + 1)) = intsN (onesL R k) ++ [(k : Int)]) := by
          show intsN (onesL R (k + 1)) = _
          rw [hs1]; simp [intsN]
        have hl := onesL_len R k
        have hlen : (intsN (onesL R k)).length ≤ 1000000000000 := by rw [intsN_len]; omega
        have hown : u9.ownBlock ≠ some ib := by
          intro e
          obtain ⟨c, hc, -⟩ := HROW.out
          rcases HO.out.own.2 with ⟨h1, -⟩ | ⟨g', cap', cur', h1, h2, h3, -⟩
          · rw [h1] at e; simp [Value.ownBlock] at e
          · rw [h1] at e
            simp [Value.ownBlock] at e
            subst e
            rw [h3] at hc
            injection hc with hc
            injection hc with _ h4 _
            exact absurd h4 (by decide)
        have HNE := Lib.hid hown
        clear hRk hs1 hl hown
        obtain ⟨a9, c9, rfl⟩ := HO.out.shape
        go_wp2_with (at_builtin; (refine push_int rfl _ _ rfl rfl HO.out rfl (by simp) hlen ?_)
                     intro g4 c4 w4 hO4 hg4 hat4
                     have HO4 := Lib.hid hO4
                     have HR4 : Hid (w4.rowIs ib 4 n (fun i => .bool (R i))) := HROW.out.of_block (hg4.block ib HROW.out.lt (Ne.symm HNE.out))
                     clear hO4 hg4 hat4)
        exact ⟨⟨k + 1, by omega, by go_num, by rw [HS.out]; exact HO4, HR4⟩, by simp [intOf]; omega⟩
    · obtain rfl : n = k := by omega
      go_wp2
      go_ret2
      exact ⟨_, R, rfl, HR.out, HO.out⟩
end Go.Proofs.Ytapdapidnnkpmaa
