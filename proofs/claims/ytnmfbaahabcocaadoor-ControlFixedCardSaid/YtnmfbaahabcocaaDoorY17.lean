/- Joined by my own program, in build order: Order. -/
import Derived.Test.YtnmfbaahabcocaaDoorY13
import Derived.BigQuiet
import Derived.BigRegion
import Derived.Deep.RegionLaw
import Derived.Deep.DeepCutAuto
import Derived.Deep.CutBlock
set_option linter.unusedVariables false
set_option linter.unusedSimpArgs false
section
namespace Go.Proofs.YtnmfbaahabcocaaDoor
open Go.RowKit
set_option maxHeartbeats 4000000 in
set_option maxRecDepth 100000 in
theorem order_any (w : World) (n s tb : Nat) (hn : n ≤ 100001) (hs : s < n) (E : List (Nat × Nat)) (hlen : E.length ≤ 1000000) (hed : ∀ e ∈ E, e.1 < n ∧ e.2 < n) (hrows : RowsAt w tb n (outs E)) :
    Calls Tryd.prog 52 #[.int .i64 n, .slice (some ⟨tb, 0, none⟩) n n, .int .i64 s] w fun e w' => ∃ (nb : Nat) (num : Nat → Nat) (vo : Value) (nodes : List Nat), e = .returned (.tuple #[.slice (some ⟨nb, 0, none⟩) n n, vo]) ∧ Post E s nodes num ∧ w'.rowIs nb 3 n (fun i => iv (num i)) ∧ w'.ownsRow w.heap.size 3 1 vo nodes.length (nodes.map iv) ∧ Below w.heap.size w w' ∧ nodes.length ≤ 1000000000000 := by
  have HED := Lib.hid hed
  have HR := Lib.hid hrows
  have hmk := run_make_row' 26 3 (.int .i64 0) 8 Tryd.underlying26 info_int rfl .i64 .i64 n (by omega) (by omega)
  obtain ⟨i0, hi, hz0, hz1, hz2⟩ := info_parts info_int
  clear hed hrows
  go_enter Tryd.func52, Tryd.ntmps52
  go_upto_region 1 with (fail)
  go_cut [8, 9, 10] (fun v8 v9 v10 wx => ∃ nb sb xb, v8 = .slice (some ⟨nb, 0, none⟩) n n ∧ v9 = .slice (some ⟨sb, 0, none⟩) n n ∧ v10 = .slice (some ⟨xb, 0, none⟩) n n ∧ Hid (Made3 w wx n nb sb xb))
  case first =>
    go_region
    all_goals (go_wp2; go_meet; refine ⟨_, _, _, rfl, rfl, rfl, Made3.drew (made3 w n _ _ _ ?_ ?_ ?_ ?_ ?_ ?_)⟩ <;> omega)
  case rest =>
    obtain ⟨nb, sb, xb, rfl, rfl, rfl, HM⟩ := hcut
    clear hmk
    have hsf := HM.out.rs.frozen s
    have hsc := HM.out.rs.cell hs
    have HO := Lib.hid (HM.out.ord s)
    have hlm := HM.out.rs.lt
    clear HM
    have hrest := rest_le (outs E) (fun _ => 0) E.length (outs_len E) n
    have hnm : n * E.length ≤ 100001 * 1000000 := Nat.mul_le_mul hn hlen
    have HD : Hid (DInv E s n [] [s] (fun _ => 0) (fun _ => 0) (fun i => decide (i = s))) := DInv.start E hs
    obtain ⟨B, hB1, hB2⟩ : ∃ B, 2 * rest (outs E) (fun _ => 0) n + 1 = B ∧ B ≤ 300000000000 := ⟨_, rfl, by omega⟩
    have HB1 := Lib.hid hB1
    clear hrest hnm hB1
    go_wp2
    clear hsf hlm hsc
    go_loopg [11, 12] (2 * rest (outs E) (fun _ => 0) n + 1) (fun gk v11 v12 wr => ∃ (out stack : List Nat) (num nxt : Nat → Nat) (seen : Nat → Bool) (ao : Option Addr) (co : Nat) (a : Option Addr) (c : Nat), v11 = .slice ao out.length co ∧ v12 = .slice a stack.length c ∧ Hid (gk = 2 * rest (outs E) nxt n + stack.length) ∧ Hid (2 * rest (outs E) nxt n + stack.length + out.length ≤ B) ∧ Hid (OrdSt w wr nb sb xb n num (fun i => if seen i then 1 else 0) nxt (.slice ao out.length co) (.slice a stack.length c) out stack) ∧ Hid (DInv E s n out stack num nxt seen))
    case atStart => exact ⟨[], [s], _, _, _, none, 0, _, _, rfl, rfl, rfl, Nat.le_of_eq HB1.out, (by have := HO.out; simp only [decide_eq_true_eq]; exact this), HD⟩
    case round =>
      clear HO HD HB1
      obtain ⟨out, stack, num, nxt, seen, ao, co, a, c, rfl, rfl, HGK, HWB, HS, HD⟩ := hrel
      rcases list_last stack with rfl | ⟨ws, i, rfl⟩
      · go_wp2
        go_ret2
        exact ⟨nb, num, _, out, rfl, HD.out.done, HS.out.rn, HS.out.oo, HS.out.below, by have := HWB.out; omega⟩
      · simp only [List.length_append, List.length_cons, List.length_nil, Nat.zero_add] at *
        obtain ⟨g2, rfl, hcell, hcap, hcapm, HP⟩ := HS.out.pop
        have HPH := Lib.hid HP
        have hcapm : c ≤ 9223372036854775807 := by unfold maxLen at hcapm; omega
        have hsi : seen i = true := (HD.out.iff i).2 (.inr (by simp))
        have hin : i < n := HD.out.lt i hsi
        have hnx := HP.rx.cell hin
        have hnf := HP.rx.frozen i
        have hnn := HP.rn.frozen i
        have hnc := HP.rn.cell hin
        obtain ⟨aL, cL, hrow, hrow2⟩ := HR.out.row i hin
        have hrow1 := (HP.below.cell (p := ⟨tb, i, none⟩) HR.out.lt).trans hrow
        have hpart := (HD.out.part i).1
        have hHIN := Lib.hid hsi
        obtain ⟨q, hq⟩ : ∃ q, q = ws.length := ⟨_, rfl⟩
        have HQ := Lib.hid hq
        have HROW := Lib.hid hrow2
        obtain ⟨X, hX⟩ : ∃ X, X = (outs E i).length := ⟨_, rfl⟩
        obtain ⟨Y, hY⟩ : ∃ Y, Y = nxt i := ⟨_, rfl⟩
        have HXE := Lib.hid hX
        have HYE := Lib.hid hY
        have hlo := outs_len E i
        rw [← hq] at hcell hcap HGK HWB ⊢
        rw [← hX] at hrow1 hpart hlo
        simp only [← hY, iv] at hnx hpart
        clear HP hq hX hY hsi hrow hrow2
        have hXm : X ≤ 1000000 := by omega
        have HPT := Lib.hid hpart
        have hp0 : out.length ≤ 300000000000 := by have := HWB.out; omega
        have hq0 : q ≤ 300000000000 := by have := HWB.out; omega
        by_cases hYX : Y = X
        · obtain rfl : X = Y := hYX.symm
          have hful : nxt i = (outs E i).length := HYE.out.symm.trans HXE.out
          have HD2 : Hid (DInv E s n (out ++ [i]) ws (fun j => if j = i then out.length else num j) nxt seen) := HD.out.pop hful
          clear hful hpart hYX
          go_wp2
          go_quiet (fail)
          go_upto_region 10 with (fail)
          have HN := Lib.hid (((HPH.out.drewN nq).setN i out.length).alloc (.cells #[.int .i64 (i : Int)] 3))
          clear hnf hnn hnc hnx hcell hrow1
          generalize hw3 : World.setCell (wr.drewN nq) _ _ = w3
          rw [hw3] at HN
          clear hw3
          obtain ⟨w5, hw5⟩ : ∃ w5, w5 = w3.alloc (.cells #[.int .i64 (i : Int)] 3) := ⟨_, rfl⟩
          have HW5 := Lib.hid hw5
          rw [← hw5] at HN
          have hc5 : w5.cell? ⟨w3.heap.size, 0, none⟩ = some (.int .i64 (i : Int)) := by rw [hw5]; simp
          clear hw5
          go_wp2_with (at_builtin; (refine wpList_append_lies _ rfl _ _ 26 rfl w.heap.size 3 i0 (.int .i64 0) 1 8 Tryd.underlying26 hi hz0 hz1 hz2 rfl (by decide) (.slice ao out.length co) out.length (out.map iv) rfl ?_ ⟨w3.heap.size, 0, none⟩ 1 1 [.int .i64 i] rfl rfl ?_ (one_cell _ rfl) (by omega) (by unfold maxLen; omega) (by omega) ?_ w5.heap.size ?_ ?_)
                       · rw [← HW5.out]; exact HN.out.oo
                       · rw [← HW5.out]; exact one_at hc5
                       · rw [← HW5.out]; exact HN.out.below.size
                       · rw [← HW5.out]
                       intro g4 c4 w4 hown4 hg4 hat4 hlt4
                       have W4 : Hid (OrdSt w w4 nb sb xb n _ _ _ (.slice (some ⟨g4, 0, none⟩) (out.length + 1) c4) _ (out ++ [i]) ws) := HN.out.push rfl hown4 (by rw [HW5.out]; exact hg4) hat4
                       clear hown4 hg4 hat4 hlt4)
          go_roundg (2 * rest (outs E) nxt n + q)
          case measure => have := HGK.out; omega
          case rel =>
            refine ⟨out ++ [i], ws, _, _, _, some ⟨g4, 0, none⟩, c4, some ⟨g2, 0, none⟩, c, by simp, by rw [HQ.out], ?_, ?_, ?_, HD2⟩
            · show _ = _; rw [HQ.out]
            · show _ ≤ B
              have := HWB.out
              rw [← HQ.out, List.length_append]; simp; omega
            · have := W4.out
              rw [List.length_append]
              exact this
        · have hYX2 : Y < X := by omega
          obtain ⟨j, hj⟩ : ∃ j, (outs E i)[nxt i]? = some j := ⟨_, List.getElem?_eq_getElem (by have := HXE.out; have := HYE.out; omega)⟩
          obtain ⟨gi, rfl, hgi, hcj⟩ := HROW.out (nxt i) j hj
          have hcj1 := (HPH.out.below.cell (p := ⟨gi, nxt i, none⟩) hgi).trans hcj
          rw [← HYE.out] at hcj1
          have hjn : j < n := (HED.out _ (mem_outs.1 (List.mem_of_getElem? hj))).2
          have HD2 := Lib.hid (HD.out.next HED.out hj)
          have hst := rest_step (outs E) nxt i (by have := HXE.out; have := HYE.out; omega) n
          rw [if_pos hin] at hst
          have HST := Lib.hid hst
          have HGI := Lib.hid hgi
          have HJ := Lib.hid hj
          clear hst hj hcj hgi
          have hne : ((Y : Int) == (X : Int)) = false := by simp; omega
          have HX : ∀ k, Hid (OrdSt w ((wr.drewN k).setCell ⟨xb, i, none⟩ (.int .i64 ((Y : Int) + 1))) nb sb xb n num (fun i => if seen i then 1 else 0) (fun k => if k = i then nxt i + 1 else nxt k) (.slice ao out.length co) (.slice (some ⟨g2, 0, none⟩) (q + 1) c) out (ws ++ [i])) := by
            intro k
            have h := (HS.out.drewN k).setX i (Y + 1)
            have e1 : ((Y + 1 : Nat) : Int) = (Y : Int) + 1 := by omega
            rw [e1, HYE.out, ← HQ.out] at h
            rw [HYE.out]; exact h
          have HXX := Lib.hid HX
          clear HX
          go_wp2
          go_quiet (fail)
          go_wp2
          go_quiet (fail)
          go_upto_region 13 with (fail)
          generalize hw3 : World.setCell (wr.drewN _) _ _ = w3
          obtain ⟨kk, hkk⟩ : ∃ k, World.setCell (wr.drewN k) ⟨xb, i, none⟩ (.int .i64 ((Y : Int) + 1)) = w3 := ⟨_, hw3⟩
          have HN := HXX.out kk
          rw [hkk] at HN
          clear hw3 hkk HXX hne hnf hnn hnc hnx hcell hrow1 hcj1
          have hsj := HN.out.rs.cell hjn
          have hsjf := HN.out.rs.frozen j
          simp only [iv] at hsj
          cases hse : seen j with
          | true =>
            rw [hse] at hsj HD2
            have hsj : w3.cell? ⟨sb, j, none⟩ = some (.int .i64 1) := hsj
            have HSE := Lib.hid hse
            clear hse
            have hss : (fun k => seen k || decide (k = j)) = seen := by
              funext k
              by_cases e : k = j
              · subst e; rw [HSE.out]; rfl
              · simp [e]
            rw [hss, if_pos rfl] at HD2
            clear hss
            go_wp2
            go_roundg (2 * rest (outs E) (fun k => if k = i then nxt i + 1 else nxt k) n + (q + 1))
            case measure => have := HGK.out; have := HST.out; omega
            case rel =>
              have hl : (ws ++ [i]).length = q + 1 := by rw [HQ.out]; simp
              refine ⟨out, ws ++ [i], num, _, seen, ao, co, some ⟨g2, 0, none⟩, c, rfl, by rw [hl], ?_, ?_, ?_, HD2⟩
              · show _ = _; rw [hl]
              · show _ ≤ B
                have := HWB.out; have := HST.out
                rw [hl]; omega
              · rw [hl]; exact HN
          | false =>
            rw [hse] at hsj HD2
            have hsj : w3.cell? ⟨sb, j, none⟩ = some (.int .i64 0) := hsj
            have hss : (fun k => if k = j then 1 else if seen k = true then 1 else 0) = (fun k => if (seen k || decide (k = j)) = true then 1 else (0 : Nat)) := by
              funext k
              by_cases e : k = j
              · simp [e]
              · simp [e]
            have HN2 := HN.out.setS j 1
            rw [hss] at HN2
            have HN3 : Hid (OrdSt w (w3.setCell ⟨sb, j, none⟩ (.int .i64 1)) nb sb xb n num _ _ _ _ out (ws ++ [i])) := HN2
            clear hss hse HN2
            rw [if_neg (by decide)] at HD2
            go_upto_region 15 with (fail)
            generalize hw6 : World.setCell w3 _ _ = w6
            rw [hw6] at HN3
            clear hw6 HN hsj hsjf
            have hl : (ws ++ [i]).length = q + 1 := by rw [HQ.out]; simp
            have HL := Lib.hid hl
            have HN := Lib.hid (HN3.out.swap.alloc (.cells #[.int .i64 (j : Int)] 3))
            obtain ⟨w5, hw5⟩ : ∃ w5, w5 = w6.alloc (.cells #[.int .i64 (j : Int)] 3) := ⟨_, rfl⟩
            have HW5 := Lib.hid hw5
            rw [← hw5] at HN
            have hc5 : w5.cell? ⟨w6.heap.size, 0, none⟩ = some (.int .i64 (j : Int)) := by rw [hw5]; simp
            clear hw5 hl HN3
            go_wp2_with (at_builtin; (refine wpList_append_lies _ rfl _ _ 26 rfl w.heap.size 3 i0 (.int .i64 0) 1 8 Tryd.underlying26 hi hz0 hz1 hz2 rfl (by decide) (.slice (some ⟨g2, 0, none⟩) (q + 1) c) (q + 1) ((ws ++ [i]).map iv) rfl ?_ ⟨w6.heap.size, 0, none⟩ 1 1 [.int .i64 j] rfl rfl ?_ (one_cell _ rfl) (by omega) (by unfold maxLen; omega) (by omega) ?_ w5.heap.size ?_ ?_)
                         · rw [← HW5.out, ← HL.out]; have := HN.out.oo; rw [HL.out] at this ⊢; exact this
                         · rw [← HW5.out]; exact one_at hc5
                         · rw [← HW5.out]; exact HN.out.below.size
                         · rw [← HW5.out]
                         intro g4 c4 w4 hown4 hg4 hat4 hlt4
                         have W4 : Hid (OrdSt w w4 nb sb xb n _ _ _ (.slice (some ⟨g4, 0, none⟩) (q + 1 + 1) c4) _ (ws ++ [i] ++ [j]) out) := HN.out.push rfl (by rw [HL.out]; exact hown4) (by rw [HW5.out]; exact hg4) hat4
                         clear hown4 hg4 hat4 hlt4)
            go_roundg (2 * rest (outs E) (fun k => if k = i then nxt i + 1 else nxt k) n + (q + 1 + 1))
            case measure => have := HGK.out; have := HST.out; omega
            case rel =>
              have hl2 : (ws ++ [i] ++ [j]).length = q + 1 + 1 := by rw [List.length_append, HL.out]; rfl
              refine ⟨out, ws ++ [i] ++ [j], num, _, _, ao, co, some ⟨g4, 0, none⟩, c4, rfl, by rw [hl2], ?_, ?_, ?_, HD2⟩
              · show _ = _; rw [hl2]
              · show _ ≤ B
                have := HWB.out; have := HST.out
                rw [hl2]; omega
              · rw [hl2]; exact W4.out.swap
end Go.Proofs.YtnmfbaahabcocaaDoor
end
