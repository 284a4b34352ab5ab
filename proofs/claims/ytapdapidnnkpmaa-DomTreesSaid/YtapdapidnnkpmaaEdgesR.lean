/- The reference's SameEdges and nodes. -/
import Derived.Test.YtapdapidnnkpmaaEdges
import Derived.Laws.StructEq
import Derived.Deep.QuietTactic
import Derived.BigQuiet
namespace Go.Proofs.Ytapdapidnnkpmaa
open Go.RowKit

theorem inEdge : Try.prog.stoodInHeld 36 = false := by kernel_rfl
theorem gdEdge : Try.prog.eqGuardType Try.prog.depth 36 = false := by kernel_rfl
theorem sameEdges_any (w : World) (u v : Value) (l m : List Edge) (hu : RE w u l) (hv : RE w v m) :
    Calls Try.prog 12 #[u, v] w fun e w' => e = .returned (.bool (decide (l = m))) ∧ Below w.heap.size w w' := by
  obtain ⟨a, n, cap, rfl, hn, hmax, hel⟩ := hu
  obtain ⟨a', n', cap', rfl, hn', hmax', hel'⟩ := hv
  have H := Lib.hid hel
  have H' := Lib.hid hel'
  have HN := Lib.hid hn
  have HN' := Lib.hid hn'
  clear hel hel' hn hn'
  by_cases hnn : n = n'
  · subst hnn
    go_enter Try.func12, Try.ntmps12
    go_wp2
    go_loopw [13] (fun v13 wr => ∃ k : Nat, k ≤ n ∧ v13 = .int .i64 k ∧ Hid (l.take k = m.take k) ∧ Hid (Below w.heap.size w wr)) (fun v13 _ => n - (intOf v13).toNat)
    case atStart => exact ⟨0, by omega, rfl, rfl, Below.refl _ _⟩
    case round =>
      obtain ⟨k, hk, rfl, HQ, HB⟩ := hrel
      by_cases hlt : k < n
      · obtain ⟨x, hx⟩ : ∃ x, l[k]? = some x := ⟨_, List.getElem?_eq_getElem (by rw [HN.out]; exact hlt)⟩
        obtain ⟨y, hy⟩ : ∃ y, m[k]? = some y := ⟨_, List.getElem?_eq_getElem (by rw [HN'.out]; exact hlt)⟩
        have HX := Lib.hid hx
        have HY := Lib.hid hy
        clear hx hy
        obtain ⟨b, off, rfl, hb, hc, hd⟩ := H.out k _ HX.out
        obtain ⟨b', off', rfl, hb', hc', hd'⟩ := H'.out k _ HY.out
        have c1 : wr.cell? ⟨b, off + k * 2, none⟩ = some (.int .i64 x.fr) := (HB.out.cell (p := ⟨b, off + k * 2, none⟩) hb).trans hc
        have c2 : wr.cell? ⟨b', off' + k * 2, none⟩ = some (.int .i64 y.fr) := (HB.out.cell (p := ⟨b', off' + k * 2, none⟩) hb').trans hc'
        have c3 : wr.cell? ⟨b, off + k * 2 + 1, none⟩ = some (.int .i64 x.to) := (HB.out.cell (p := ⟨b, off + k * 2 + 1, none⟩) hb).trans hd
        have c4 : wr.cell? ⟨b', off' + k * 2 + 1, none⟩ = some (.int .i64 y.to) := (HB.out.cell (p := ⟨b', off' + k * 2 + 1, none⟩) hb').trans hd'
        clear hc hc' hb hb' hd hd'
        have hkn : (k : Int) < (n : Int) := by omega
        have hin := inEdge
        have hgd := gdEdge
        go_wp2
        obtain ⟨xf, xt⟩ := x
        obtain ⟨yf, yt⟩ := y
        by_cases hf : xf = yf
        · subst hf
          by_cases ht : xt = yt
          · subst ht
            go_quiet (fail)
            go_wp2
            refine ⟨⟨k + 1, by omega, by go_num, ?_, ?_⟩, by simp [intOf]; omega⟩
            · show l.take (k + 1) = m.take (k + 1)
              rw [List.take_add_one, List.take_add_one, HX.out, HY.out, HQ.out]
            · exact bdrewN HB.out _
          · have HD : Hid (decide (l = m) = false) := by
              show decide (l = m) = false
              rw [decide_eq_false_iff_not]
              rintro rfl
              have := HX.out.symm.trans HY.out
              simp only [Option.some.injEq, Edge.mk.injEq, true_and] at this
              exact ht this
            go_quiet (fail)
            go_wp2
            go_ret
            exact ⟨by rw [HD.out]; rfl, bdrewN HB.out _⟩
        · have HD : Hid (decide (l = m) = false) := by
            show decide (l = m) = false
            rw [decide_eq_false_iff_not]
            rintro rfl
            have := HX.out.symm.trans HY.out
            simp only [Option.some.injEq, Edge.mk.injEq] at this
            exact hf this.1
          go_quiet (fail)
          go_wp2
          go_ret
          exact ⟨by rw [HD.out]; rfl, bdrewN HB.out _⟩
      · obtain rfl : n = k := by omega
        have HD : Hid (decide (l = m) = true) := by
          show decide (l = m) = true
          rw [decide_eq_true_iff]
          have h := HQ.out
          rw [List.take_of_length_le (by rw [HN.out]; exact Nat.le_refl _), List.take_of_length_le (by rw [HN'.out]; exact Nat.le_refl _)] at h
          exact h
        go_wp2
        go_ret
        exact ⟨by rw [HD.out]; rfl, HB.out⟩
  · have HD : Hid (decide (l = m) = false) := by
      show decide (l = m) = false
      rw [decide_eq_false_iff_not]
      rintro rfl
      exact hnn (HN.out.symm.trans HN'.out)
    go_enter Try.func12, Try.ntmps12
    go_wp2
    all_goals go_ret
    all_goals exact ⟨by rw [HD.out]; rfl, Below.refl _ _⟩

def nodesB (n : Int) (l : List Int) : Bool := l.all fun i => decide (0 ≤ i) && decide (i < n)
theorem nodes_any (n : Int) (v : Value) (l : List Int) (w : World) (hv : RI w v l) :
    Calls Try.prog 22 #[.int .i64 n, v] w fun e w' => e = .returned (.bool (nodesB n l)) ∧ w = w' := by
  obtain ⟨a, m, cap, rfl, hm, hmax, hel⟩ := hv
  have H := Lib.hid hel
  have HN := Lib.hid hm
  clear hel hm
  go_enter Try.func22, Try.ntmps22
  go_wp2
  go_loop [9] (fun v9 => ∃ j : Nat, j ≤ m ∧ v9 = .int .i64 j ∧ Hid (nodesB n (l.take j) = true)) (fun v9 => m - (intOf v9).toNat)
  case atStart => exact ⟨0, by omega, rfl, rfl⟩
  case round =>
    obtain ⟨j, hj, rfl, HP⟩ := hrel
    by_cases hlt : j < m
    · obtain ⟨x, hx⟩ : ∃ x, l[j]? = some x := ⟨_, List.getElem?_eq_getElem (by rw [HN.out]; exact hlt)⟩
      have HX := Lib.hid hx
      clear hx
      obtain ⟨b, off, rfl, hbl, hc0⟩ := H.out j _ HX.out
      by_cases hx : 0 ≤ x ∧ x < n
      · obtain ⟨x1, x2⟩ := hx
        have HNX : Hid (nodesB n (l.take (j + 1)) = true) := by
          show nodesB n (l.take (j + 1)) = true
          have hp := HP.out
          unfold nodesB at hp ⊢
          rw [List.take_add_one, HX.out, List.all_append, hp]
          simp [x1, x2]
        go_wp2
        go_round
        case rel => exact ⟨j + 1, by omega, by go_num, HNX⟩
        case measure => simp [intOf]; omega
      · have HNO : Hid (nodesB n l = false) := by
          show nodesB n l = false
          rw [Bool.eq_false_iff]
          intro hall
          unfold nodesB at hall
          have := List.all_eq_true.1 hall x (List.mem_of_getElem? HX.out)
          simp only [Bool.and_eq_true, decide_eq_true_eq] at this
          exact hx this
        by_cases x1 : x < 0
        · clear hx
          go_wp2
          go_ret
          exact ⟨by rw [HNO.out]; rfl, rfl⟩
        · have x2 : n ≤ x := by omega
          clear hx
          go_wp2
          go_ret
          exact ⟨by rw [HNO.out]; rfl, rfl⟩
    · obtain rfl : m = j := by omega
      have HE : Hid (nodesB n l = true) := by
        show nodesB n l = true
        have h := HP.out
        rwa [List.take_of_length_le (by rw [HN.out]; exact Nat.le_refl _)] at h
      go_wp2
      go_ret
      exact ⟨by rw [HE.out]; rfl, rfl⟩
end Go.Proofs.Ytapdapidnnkpmaa
