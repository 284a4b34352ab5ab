/- Joined by my own program, in build order: Tree. -/
import Derived.Test.YtnmfbaahabcocaaDoorY16
import Derived.Test.YtnmfbaahabcocaaDoorY17
import Derived.Deep.RegionLaw
import Derived.BigRegion
import Derived.Deep.DeepCutAuto
import Derived.Deep.CutBlock
set_option linter.unusedVariables false
set_option linter.unusedSimpArgs false
section
namespace Go.Proofs.YtnmfbaahabcocaaDoor
open Go.RowKit
structure Tree (E : List (Nat × Nat)) (s : Nat) (u : Nat → Option Nat) : Prop where
  root : u s = some s
  set : ∀ i, (u i).isSome = true ↔ Rch E s i
  num : ∃ num : Nat → Nat, ∀ v p, v ≠ s → u v = some p → num v < num p
  dom : ∀ i d, Rch E s i → (Anc u s i d ↔ Dom E s d i)
theorem Pass.tree {E : List (Nat × Nat)} {s : Nat} {nodes : List Nat} {num : Nat → Nat} {u0 u : Nat → Option Nat} (P : Post E s nodes num) (H : Pass E s nodes num u0 u (-1) false) : Tree E s u :=
  ⟨H.st.root, fun i => ⟨fun h => (P.reach i).1 (H.st.mem P h), fun h => H.set i ((P.reach i).2 h) (by omega)⟩, ⟨num, fun v p h1 h2 => (H.st.tree v p h1 h2).2.2.1⟩, fun i d h => H.done P i d ((P.reach i).2 h)⟩
def upEnd (s : Nat) (u : Nat → Option Nat) (i : Nat) : Value := uv (if i = s then none else u i)
set_option maxHeartbeats 16000000 in
set_option maxRecDepth 100000 in
theorem tree_main (w : World) (n s : Nat) (v : Value) (E : List (Nat × Nat)) (hv : RE w v (E.map toE)) (hlen : E.length ≤ 1000000) (hn : n ≤ 100000) (hs : s < n) (hed : ∀ e ∈ E, e.1 < n ∧ e.2 < n) (hg : graphB n (E.map toE) = true) :
    Calls Tryd.prog 35 #[.int .i64 n, v, .int .i64 s] w fun e w' => Below w.heap.size w w' ∧ ∃ (u : Nat → Option Nat) (ub : Nat), Tree E s u ∧ e = .returned (.tuple #[.slice (some ⟨ub, 0, none⟩) n n, .int .i64 0]) ∧ w'.rowIs ub 3 n (upEnd s u) ∧ w.heap.size ≤ ub := by
  have HV := Lib.hid hv
  have HG := Lib.hid hg
  have HED := Lib.hid hed
  have hlf : (flip E).length ≤ 1000000 := by rw [flip_len]; exact hlen
  have HLF := Lib.hid hlf
  have HLE := Lib.hid hlen
  have hmk := run_make_row' 53 26 (.slice none 0 0) 24 Tryd.underlying53 info_ints rfl .i64 .i64 n (by omega) (by omega)
  obtain ⟨i0, hi, hz0, hz1, hz2⟩ := info_parts info_int
  have hsd : decide ((s : Int) < 0) = false := by simp
  have hsd2 : decide (n ≤ s) = false := by simp; omega
  clear hv hg hed hlf
  go_enter Tryd.func35, Tryd.ntmps35
  go_wp2_with fail
  refine (graphCheck_any n v _ w HV.out).mono ?_
  rintro e wg ⟨rfl, hb1⟩
  have HB1 := Lib.hid hb1
  rw [HG.out]
  simp only [edgeErr]
  have HV1 := Lib.hid (HV.out.below hb1)
  clear hb1 HV HG
  go_upto_region 5 with (fail)
  go_cut [8, 9] (fun v8 v9 wx => ∃ tb fb, v8 = .slice (some ⟨tb, 0, none⟩) n n ∧ v9 = .slice (some ⟨fb, 0, none⟩) n n ∧ Hid (AT wg wx tb fb n (fun _ => .slice none 0 0) (fun _ => .slice none 0 0) (fun _ => []) (fun _ => [])))
  case first =>
    go_region
    all_goals (go_wp2; go_meet; refine ⟨_, _, rfl, rfl, AT.start wg n _ _ ?_ ?_ ?_⟩ <;> omega)
  case rest =>
    obtain ⟨tb, fb, rfl, rfl, HA⟩ := hcut
    clear hmk
    obtain ⟨a, m, cap, rfl, hm, hmax, hel⟩ := HV1.out
    have H := Lib.hid hel
    have hm2 : E.length = m := by rw [← hm, List.length_map]
    have HN := Lib.hid hm2
    have hml : m ≤ 1000000 := by omega
    clear hm hm2 hlen HV1 hel
    go_wp2
    go_loopw [42] (fun v42 wr => ∃ k : Nat, k ≤ m ∧ v42 = .int .i64 k ∧ Hid (∃ F G, AT wg wr tb fb n F G (outs (E.take k)) (outs ((flip E).take k)))) (fun v42 _ => m - (intOf v42).toNat)
    case atStart => exact ⟨0, by omega, rfl, _, _, HA.out⟩
    case round =>
      clear HA
      obtain ⟨k, hk, rfl, HAT⟩ := hrel
      by_cases hlt : k < m
      · obtain ⟨F, G, HAT'⟩ := HAT
        have HAT : Hid (AT wg wr tb fb n F G (outs (E.take k)) (outs ((flip E).take k))) := HAT'
        clear HAT'
        have HB : Hid (Below wg.heap.size wg wr) := HAT.out.below
        obtain ⟨e, he⟩ : ∃ e, E[k]? = some e := ⟨_, List.getElem?_eq_getElem (by rw [HN.out]; exact hlt)⟩
        have HEK := Lib.hid he
        obtain ⟨f, t⟩ := e
        obtain ⟨b0, off, rfl, hbl, hc0, hc1⟩ := H.out k ⟨(f : Int), (t : Int)⟩ (by rw [List.getElem?_map, he]; rfl)
        obtain ⟨hf, ht⟩ := HED.out _ (List.mem_of_getElem? he)
        have hf : f < n := hf
        have ht : t < n := ht
        have d0 : wr.cell? ⟨b0, off + k * 2, none⟩ = some (.int .i64 f) := (HB.out.cell (p := ⟨b0, off + k * 2, none⟩) hbl).trans hc0
        have d1 : wr.cell? ⟨b0, off + k * 2 + 1, none⟩ = some (.int .i64 t) := (HB.out.cell (p := ⟨b0, off + k * 2 + 1, none⟩) hbl).trans hc1
        clear hc0 hc1 he
        have hbl2 : b0 < wg.heap.size := hbl
        go_upto_block 2 with (fail)
        go_cut [] (fun wx => Hid (∃ F G, AT wg wx tb fb n F G (outs (E.take (k + 1))) (outs ((flip E).take (k + 1)))))
        case first =>
          go_upto_region 9 with (fail)
          generalize hwa : World.alloc wr _ = wa
          obtain ⟨eb, heb⟩ : ∃ eb, eb = wr.heap.size := ⟨_, rfl⟩
          have HEB : Hid (∃ cur fr, wa.heap[eb]? = some (.cells cur 42 fr)) := by rw [← hwa, heb]; exact ⟨_, _, heap_alloc_new wr _⟩
          have S0 : wa.cell? ⟨eb, 0, none⟩ = some (.int .i64 f) := by rw [← hwa, heb]; simp
          have S1 : wa.cell? ⟨eb, 1, none⟩ = some (.int .i64 t) := by rw [← hwa, heb]; simp
          have HA2 : Hid (AT wg wa tb fb n F G (outs (E.take k)) (outs ((flip E).take k))) := by rw [← hwa]; exact HAT.out.more ((Below.refl _ _).alloc (Nat.le_refl _) _)
          rw [← heb]
          clear hwa heb HAT d0 d1
          have hff : f < n := hf
          have htt : t < n := ht
          have hlo := outs_len (E.take k) f
          have htk : (E.take k).length ≤ k := List.length_take_le _ _
          have hlo2 := outs_len ((flip E).take k) t
          have htk2 : ((flip E).take k).length ≤ k := List.length_take_le _ _
          have HEK2 := Lib.hid (flip_at HEK.out)
          go_cut [] (fun wx => Hid (∃ F', AT wg wx tb fb n F' G (outs (E.take (k + 1))) (outs ((flip E).take k))) ∧ Hid (∃ cur fr, wx.heap[eb]? = some (.cells cur 42 fr)) ∧ wx.cell? ⟨eb, 0, none⟩ = some (.int .i64 f) ∧ wx.cell? ⟨eb, 1, none⟩ = some (.int .i64 t))
          case first =>
            have RA := Lib.hid HA2.out.rt
            have FA := Lib.hid HA2.out.ft
            have BA := Lib.hid HA2.out.below
            have NE : Hid ((F f).ownBlock ≠ some eb) := by
              obtain ⟨cur, fr, h⟩ := HEB.out
              exact FA.out.notBlock h (by decide) hff
            have s0 : wa.cell? ⟨eb, 0, none⟩ = some (.int .i64 f) := S0
            have s1 : wa.cell? ⟨eb, 1, none⟩ = some (.int .i64 t) := S1
            have s2 : wa.cell? ⟨tb, f, none⟩ = some (F f) := RA.out.cell hff
            have s3 : wa.frozen? ⟨tb, f, none⟩ = false := RA.out.frozen f
            have hown := FA.out.own f hff
            have hbase : wg.heap.size ≤ wa.heap.size := BA.out.size
            obtain ⟨ov, hov⟩ : ∃ ov, ov = F f := ⟨_, rfl⟩
            have nb1 : ov.ownBlock ≠ some eb := by rw [hov]; exact NE.out
            have nb2 : ov.ownBlock ≠ some tb := by
              rw [hov]
              obtain ⟨c, hc, -⟩ := RA.out
              exact FA.out.notBlock hc (by decide) hff
            rw [← hov] at s2 hown
            have hbl1 : eb < wa.heap.size := cell_lt s0
            have hbl2 : tb < wa.heap.size := RA.out.lt
            have hf0 : (0 : Int) ≤ (f : Int) := by omega
            have hf1 : (f : Int) < (n : Int) := by omega
            have HOV := Lib.hid hov
            have BAL : Below wa.heap.size wa (wa.alloc (.cells #[.int .i64 t] 3)).drew := ((Below.refl _ _).alloc (Nat.le_refl _) _).drew
            clear hov
            go_region_law (first | ((refine step_append_lies _ (by rfl) _ _ _ (by rfl) wg.heap.size 3 i0 _ 1 8 Tryd.underlying26 hi hz0 hz1 hz2 rfl (by omega) ov (outs (E.take k) f).length ((outs (E.take k) f).map iv) (by rfl) ((hown.alloc _).drew) ⟨wa.heap.size, 0, none⟩ 1 1 [.int .i64 t] (by rfl) (by rfl) (World.news_of_block (cs := #[.int .i64 t]) (t := 3) (fr := (0, 0)) (heap_alloc_new wa _)) (by simp [Value.oneCell']) (by omega) (by unfold maxLen; omega) (by omega) (by simp; omega) (wa.heap.size + 1) (by simp) ?_; intro gg gcap w1 hown1 hgrow hat hlt; have k0 := (hgrow.cell_far ⟨eb, 0, none⟩ (by simp; omega) (Ne.symm nb1)).trans ((BAL.cell (p := ⟨eb, 0, none⟩) hbl1).trans s0); have k1 := (hgrow.cell_far ⟨eb, 1, none⟩ (by simp; omega) (Ne.symm nb1)).trans ((BAL.cell (p := ⟨eb, 1, none⟩) hbl1).trans s1); have k2 := (hgrow.cell_far ⟨tb, f, none⟩ (by simp; omega) (Ne.symm nb2)).trans ((BAL.cell (p := ⟨tb, f, none⟩) hbl2).trans s2); have k3 := (hgrow.frozen_far ⟨tb, f, none⟩ (by simp; omega) (Ne.symm nb2)).trans ((BAL.frozen (p := ⟨tb, f, none⟩) hbl2).trans s3))))
            all_goals
              have hAN := AT.push HA2.out hff HOV.out hown1 hgrow hat
              rw [outs_take E k f t HEK.out] at hAN
              have HAN := Lib.hid hAN
              have HEA := Lib.hid (eb_after (v' := .slice (some ⟨gg, 0, none⟩) ((outs (E.take k) f).length + 1) gcap) (f := f) hgrow HEB.out RA.out nb1 k0 k1)
              clear hAN hown1 hgrow hat k0 k1 k2 k3
              go_wp2
              go_meet
              exact ⟨HAN, HEA.out⟩
          case rest =>
            clear HA2 HEB S0 S1
            obtain ⟨HA2, HEB, S0, S1⟩ := hcut
            obtain ⟨Fa, HA3⟩ := HA2.out
            obtain ⟨wa, rfl⟩ : ∃ wa : World, wa = wc := ⟨_, rfl⟩
            obtain ⟨F, hFG⟩ : ∃ F, F = G := ⟨_, rfl⟩
            have HA2 : Hid (AT wg wa fb tb n F Fa (outs ((flip E).take k)) (outs (E.take (k + 1)))) := by rw [hFG]; exact HA3.swap
            clear HA3 hFG
            go_upto_region 10 with (fail)
            have RA := Lib.hid HA2.out.rt
            have FA := Lib.hid HA2.out.ft
            have BA := Lib.hid HA2.out.below
            have NE : Hid ((F t).ownBlock ≠ some eb) := by
              obtain ⟨cur, fr, h⟩ := HEB.out
              exact FA.out.notBlock h (by decide) htt
            have hff : t < n := htt
            have s0 : wa.cell? ⟨eb, 0, none⟩ = some (.int .i64 f) := S0
            have s1 : wa.cell? ⟨eb, 1, none⟩ = some (.int .i64 t) := S1
            have s2 : wa.cell? ⟨fb, t, none⟩ = some (F t) := RA.out.cell hff
            have s3 : wa.frozen? ⟨fb, t, none⟩ = false := RA.out.frozen t
            have hown := FA.out.own t hff
            have hbase : wg.heap.size ≤ wa.heap.size := BA.out.size
            obtain ⟨ov, hov⟩ : ∃ ov, ov = F t := ⟨_, rfl⟩
            have nb1 : ov.ownBlock ≠ some eb := by rw [hov]; exact NE.out
            have nb2 : ov.ownBlock ≠ some fb := by
              rw [hov]
              obtain ⟨c, hc, -⟩ := RA.out
              exact FA.out.notBlock hc (by decide) hff
            rw [← hov] at s2 hown
            have hbl1 : eb < wa.heap.size := cell_lt s0
            have hbl2 : fb < wa.heap.size := RA.out.lt
            have hf0 : (0 : Int) ≤ (t : Int) := by omega
            have hf1 : (t : Int) < (n : Int) := by omega
            have HOV := Lib.hid hov
            have BAL : Below wa.heap.size wa (wa.alloc (.cells #[.int .i64 f] 3)).drew := ((Below.refl _ _).alloc (Nat.le_refl _) _).drew
            clear hov
            go_region_law (first | ((refine step_append_lies _ (by rfl) _ _ _ (by rfl) wg.heap.size 3 i0 _ 1 8 Tryd.underlying26 hi hz0 hz1 hz2 rfl (by omega) ov (outs ((flip E).take k) t).length ((outs ((flip E).take k) t).map iv) (by rfl) ((hown.alloc _).drew) ⟨wa.heap.size, 0, none⟩ 1 1 [.int .i64 f] (by rfl) (by rfl) (World.news_of_block (cs := #[.int .i64 f]) (t := 3) (fr := (0, 0)) (heap_alloc_new wa _)) (by simp [Value.oneCell']) (by omega) (by unfold maxLen; omega) (by omega) (by simp; omega) (wa.heap.size + 1) (by simp) ?_; intro gg gcap w1 hown1 hgrow hat hlt; have k0 := (hgrow.cell_far ⟨eb, 0, none⟩ (by simp; omega) (Ne.symm nb1)).trans ((BAL.cell (p := ⟨eb, 0, none⟩) hbl1).trans s0); have k1 := (hgrow.cell_far ⟨eb, 1, none⟩ (by simp; omega) (Ne.symm nb1)).trans ((BAL.cell (p := ⟨eb, 1, none⟩) hbl1).trans s1); have k2 := (hgrow.cell_far ⟨fb, t, none⟩ (by simp; omega) (Ne.symm nb2)).trans ((BAL.cell (p := ⟨fb, t, none⟩) hbl2).trans s2); have k3 := (hgrow.frozen_far ⟨fb, t, none⟩ (by simp; omega) (Ne.symm nb2)).trans ((BAL.frozen (p := ⟨fb, t, none⟩) hbl2).trans s3))))
            all_goals
              have hAN := AT.push HA2.out htt HOV.out hown1 hgrow hat
              rw [outs_take (flip E) k t f HEK2.out] at hAN
              obtain ⟨Fb, hAN⟩ := hAN
              have HAN : Hid (∃ F G, AT wg (w1.setCell ⟨fb, t, none⟩ (.slice (some ⟨gg, 0, none⟩) ((outs ((flip E).take k) t).length + 1) gcap)) tb fb n F G (outs (E.take (k + 1))) (outs ((flip E).take (k + 1)))) := ⟨_, _, hAN.swap⟩
              clear hAN hown1 hgrow hat k0 k1 k2 k3
              first
                | (go_meet; exact HAN)
                | (simp only [Exit.inBlock]; go_meet; exact HAN)
                | (go_wp2; go_meet; exact HAN)
        case rest =>
          go_wp2
          exact ⟨⟨k + 1, by omega, by go_num, hcut⟩, by simp [intOf]; omega⟩
      · obtain rfl : m = k := by omega
        obtain ⟨F, G, HAT'⟩ := HAT
        rw [List.take_of_length_le (by rw [HN.out]; exact Nat.le_refl _), List.take_of_length_le (by rw [flip_len, HN.out]; exact Nat.le_refl _)] at HAT'
        have HAT : Hid (AT wg wr tb fb n F G (outs E) (outs (flip E))) := HAT'
        clear HAT'
        obtain ⟨wo, rfl⟩ : ∃ wo : World, wo = wr := ⟨_, rfl⟩
        go_wp2_with fail
        refine (order_any wo n s tb (by omega) hs E HLE.out HED.out HAT.out.rows.1).mono ?_
        rintro e w2 ⟨nb, num, vo, nodes, rfl, hP, hrn, hown, hb2, hln⟩
        have HP : Hid (Post E s nodes num) := hP
        have HB2 : Hid (Below w.heap.size w w2) := (HB1.out.trans ((HAT.out.below.trans (hb2.mono HAT.out.below.size)).mono HB1.out.size))
        have HRF : Hid (RowsAt w2 fb n (outs (flip E))) := HAT.out.rows.2.below hb2
        have HRN := Lib.hid hrn
        obtain ⟨gn, cn, rfl, hgn, hcn, hcm, -⟩ := own_at hown hP.last
        have HND : Hid (∀ k i : Nat, nodes[k]? = some i → gn < w2.heap.size ∧ w2.cell? ⟨gn, k, none⟩ = some (.int .i64 (i : Int))) := by
          intro k i hk
          obtain ⟨g', c', e, h1, -, -, h2⟩ := own_at hown hk
          simp only [Value.slice.injEq, Option.some.injEq, Addr.mk.injEq] at e
          rw [e.1.1]
          exact ⟨h1, h2⟩
        have hcn : nodes.length ≤ cn := hcn
        clear hP hrn hown hb2 HAT
        go_upto_region 13 with (fail)
        have hmk2 := run_make_row' 26 3 (.int .i64 0) 8 Tryd.underlying26 info_int rfl .i64 .i64 n (by omega) (by omega)
        obtain ⟨wy, hwy⟩ : ∃ wy, wy = w2.alloc (.cells #[.slice (some ⟨nb, 0, none⟩) n n] 26) := ⟨_, rfl⟩
        have hbY : Below w2.heap.size w2 wy := by rw [hwy]; exact (Below.refl _ _).alloc (Nat.le_refl _) _
        obtain ⟨vn, hvn⟩ : ∃ vn, vn = w2.heap.size := ⟨_, rfl⟩
        have HVN : wy.cell? ⟨vn, 0, none⟩ = some (.slice (some ⟨nb, 0, none⟩) n n) := by rw [hwy, hvn]; simp
        have HBY : Hid (Below w.heap.size w wy) := HB2.out.trans (hbY.mono HB2.out.size)
        have HRFY : Hid (RowsAt wy fb n (outs (flip E))) := HRF.out.below hbY
        have HRNY : Hid (wy.rowIs nb 3 n (fun i => iv (num i))) := HRN.out.of_block (hbY.block nb HRN.out.lt)
        have HNDY : Hid (∀ k i : Nat, nodes[k]? = some i → gn < wy.heap.size ∧ wy.cell? ⟨gn, k, none⟩ = some (.int .i64 (i : Int))) := fun k i hk => ⟨Nat.lt_of_lt_of_le (HND.out k i hk).1 hbY.size, (hbY.cell (p := ⟨gn, k, none⟩) (HND.out k i hk).1).trans (HND.out k i hk).2⟩
        rw [← hvn, ← hwy]
        clear hwy hbY hvn HB2 HRF HRN HND hgn
        go_upto_region 14 with (fail)
        obtain ⟨ub, hub⟩ : ∃ ub, ub = wy.heap.size := ⟨_, rfl⟩
        obtain ⟨vu, hvu⟩ : ∃ vu, vu = wy.heap.size + 1 := ⟨_, rfl⟩
        have hne : vu ≠ ub := by omega
        generalize hwz : World.alloc (World.alloc wy _) _ = wz
        have HVU : wz.cell? ⟨vu, 0, none⟩ = some (.slice (some ⟨ub, 0, none⟩) n n) := by rw [← hwz, hvu, hub]; simp
        have HUP : Hid (wz.rowIs ub 3 n (fun _ => .int .i64 0)) := by rw [← hwz, hub]; exact (World.rowIs_made _ _ _ _).alloc _
        have HBZ : Hid (Below wy.heap.size wy wz) := by
          rw [← hwz]
          have b1 := (Below.refl wy.heap.size wy).alloc (Nat.le_refl _) (.cells (madeCells #[.int .i64 0] n) 3)
          exact b1.alloc b1.size _
        have HHI : Hid (wy.heap.size ≤ ub) := Nat.le_of_eq hub.symm
        have hvu2 : vu = ub + 1 := by omega
        rw [← hub, ← hvu2]
        have HNE := Lib.hid hne
        clear hwz hub hvu hvu2 hmk2 hne
        go_wp2
        go_loopw [84] (fun v84 wr => ∃ k : Nat, k ≤ n ∧ v84 = .int .i64 k ∧ Hid (wr.rowIs ub 3 n (fun i => if i < k then .int .i64 (-1) else .int .i64 0)) ∧ Hid (Below wy.heap.size wy wr) ∧ wr.cell? ⟨vu, 0, none⟩ = some (.slice (some ⟨ub, 0, none⟩) n n)) (fun v84 _ => n - (intOf v84).toNat)
        case atStart => exact ⟨0, by omega, rfl, HUP.out.congr (fun j _ => by simp), HBZ, HVU⟩
        case round =>
          clear HUP HBZ HVU
          obtain ⟨k, hk, rfl, HUP, HBZ, HVU⟩ := hrel
          by_cases hlt : k < n
          · have hc := HUP.out.cell hlt
            have hf := HUP.out.frozen k
            have hx : (wr.setCell ⟨ub, k, none⟩ (.int .i64 (-1))).cell? ⟨vu, 0, none⟩ = some (.slice (some ⟨ub, 0, none⟩) n n) := ((World.cell?_of_block (w := wr) (Below.heap_setCell wr _ _ vu HNE.out))).trans HVU
            have HUP2 : Hid ((wr.setCell ⟨ub, k, none⟩ (.int .i64 (-1))).rowIs ub 3 n (fun i => if i < k + 1 then .int .i64 (-1) else .int .i64 0)) := (HUP.out.set k _).congr (fun j _ => by
              by_cases e : j = k
              · simp [e]
              · by_cases e2 : j < k
                · have : j < k + 1 := by omega
                  simp [e, e2, this]
                · have : ¬ j < k + 1 := by omega
                  simp [e, e2, this])
            have HBZ2 : Hid (Below wy.heap.size wy (wr.setCell ⟨ub, k, none⟩ (.int .i64 (-1)))) := HBZ.out.setCell HHI.out _
            have HX := Lib.hid hx
            clear hx HUP HBZ
            go_wp2
            exact ⟨⟨k + 1, by omega, by go_num, HUP2, HBZ2, HX.out⟩, by simp [intOf]; omega⟩
          · obtain rfl : n = k := by omega
            obtain ⟨wp, rfl⟩ : ∃ wp : World, wp = wr := ⟨_, rfl⟩
            have PS0 : Hid (PS wy (wp.setCell ⟨ub, s, none⟩ (.int .i64 (s : Int))) ub vu n (rootU s)) :=
              ⟨HBZ.out.setCell HHI.out _, (HUP.out.set s _).congr (fun j hj => by by_cases e : j = s <;> simp [e, rootU, uv, hj]), ((World.cell?_of_block (w := wp) (Below.heap_setCell wp _ _ vu HNE.out))).trans HVU, HNE.out, HHI.out⟩
            have hc := HUP.out.cell hs
            have hf := HUP.out.frozen s
            have hmf : ∀ (fn : Fn) (first cap : Array Value) (w : World), (Instr.makeFunc fn first cap).run Tryd.prog w = .ok (.func fn first cap) w := fun _ _ _ _ => rfl
            clear HUP HBZ
            have hpb := phi_bound HP.out (begin_root HP.out).st
            have HG0 : Hid (2 * (nodes.length * nodes.length - phi num (rootU s) nodes) + 1 = 2 * (nodes.length * nodes.length - phi num (rootU s) nodes) + (if true = true then 1 else 0)) := rfl
            have HBR := Lib.hid (begin_root HP.out)
            have hl1 : 1 ≤ nodes.length := List.length_pos_of_mem HP.out.root
            clear hpb
            go_upto_region 22 with (fail)
            generalize hws : World.setCell wp _ _ = ws
            rw [hws] at PS0
            clear hmf hc hf hws HVU
            go_loopg [17] (2 * (nodes.length * nodes.length - phi num (rootU s) nodes) + 1) (fun gk v17 wr => ∃ (ch : Bool) (u : Nat → Option Nat), v17 = .bool ch ∧ Hid (PS wy wr ub vu n u) ∧ Hid (gk = 2 * (nodes.length * nodes.length - phi num u nodes) + (if ch = true then 1 else 0)) ∧ Hid (Begin E s nodes num u) ∧ Hid (ch = false → ∃ u0, Pass E s nodes num u0 u (-1) false))
            case atStart => exact ⟨true, rootU s, rfl, PS0, HG0, HBR, fun h => by cases h⟩
            case round =>
              clear PS0 HG0 HBR
              obtain ⟨ch, u, rfl, HPS, HGK, HBG, HDN⟩ := hrel
              cases ch with
              | false =>
                have d0 := HPS.out.var
                have d1 := HPS.out.up.cell hs
                have d2 := HPS.out.up.frozen s
                have d3 : (wr.setCell ⟨ub, s, none⟩ (.int .i64 (-1))).cell? ⟨vu, 0, none⟩ = some (.slice (some ⟨ub, 0, none⟩) n n) := ((World.cell?_of_block (w := wr) (Below.heap_setCell wr _ _ vu HNE.out))).trans d0
                have HEND : Hid (Below w.heap.size w (wr.setCell ⟨ub, s, none⟩ (.int .i64 (-1))) ∧ (wr.setCell ⟨ub, s, none⟩ (.int .i64 (-1))).rowIs ub 3 n (upEnd s u)) :=
                  ⟨HBY.out.trans ((HPS.out.below.setCell HPS.out.high _).mono HBY.out.size), (HPS.out.up.set s _).congr (fun j _ => by by_cases e : j = s <;> simp [e, upEnd, uv])⟩
                have HTR : Hid (Tree E s u) := by
                  obtain ⟨u0, h⟩ := HDN.out rfl
                  exact h.tree HP.out
                go_upto_region 39 with (fail)
                go_wp2
                go_ret2
                exact ⟨HEND.out.1, u, HTR.out, ub, rfl, HEND.out.2, Nat.le_trans HBY.out.size HPS.out.high⟩
              | true =>
                have HGK1 : Hid (gk = 2 * (nodes.length * nodes.length - phi num u nodes) + 1) := HGK
                clear HGK HDN
                go_wp2
                go_loopg [17, 18] (nodes.length - 1) (fun g4 v17 v18 wr => ∃ (c2 : Bool) (mm : Nat) (ii : Int) (u2 : Nat → Option Nat), v17 = .bool c2 ∧ v18 = .int .i64 ii ∧ Hid (ii = (mm : Int) - 1) ∧ Hid (g4 = mm) ∧ Hid (mm + 1 ≤ nodes.length) ∧ Hid (PS wy wr ub vu n u2) ∧ Hid (Pass E s nodes num u u2 ((mm : Int) - 1) c2) ∧ Hid (phi num u nodes ≤ phi num u2 nodes ∧ (c2 = true → phi num u nodes < phi num u2 nodes)))
                case atStart =>
                  refine ⟨false, nodes.length - 1, _, u, rfl, rfl, ?_, rfl, ?_, HPS, ?_, ?_⟩
                  · show _ = _; omega
                  · show _ ≤ _; omega
                  · have h := Pass.start HP.out HBG.out
                    have e : (nodes.length : Int) - 2 = ((nodes.length - 1 : Nat) : Int) - 1 := by omega
                    rw [e] at h; exact h
                  · exact ⟨Nat.le_refl _, fun h => by cases h⟩
                case round =>
                  clear HPS
                  obtain ⟨c2, mm, ii, u2, rfl, rfl, HII, HG4, HMM, HPS, HPA, HPH⟩ := hrel
                  cases mm with
                  | zero =>
                    obtain rfl : -1 = ii := by have := HII.out; omega
                    go_wp2
                    go_roundg (2 * (nodes.length * nodes.length - phi num u2 nodes) + (if c2 = true then 1 else 0))
                    case measure =>
                      have h1 := HPH.out.1
                      have h2 := HPH.out.2
                      have h3 := phi_bound HP.out HPA.out.st
                      have h4 := HGK1.out
                      cases c2 with
                      | true => have := h2 rfl; simp; omega
                      | false => simp; omega
                    case rel =>
                      have h : Pass E s nodes num u u2 (-1) c2 := by have := HPA.out; simpa using this
                      exact ⟨c2, u2, rfl, HPS, rfl, h.finish, fun e => ⟨u, by rw [e] at h; exact h⟩⟩
                  | succ q =>
                    obtain rfl : (q : Int) = ii := by have := HII.out; omega
                    have hql : q < nodes.length := by have := HMM.out; omega
                    obtain ⟨bi, hbi⟩ : ∃ bi, nodes[q]? = some bi := ⟨_, List.getElem?_eq_getElem hql⟩
                    have hbm : bi ∈ nodes := List.mem_of_getElem? hbi
                    have hnq : num bi = q := HP.out.place q bi hbi
                    have hbs : bi ≠ s := by
                      intro e
                      have := HP.out.top
                      rw [← e] at this
                      have := HMM.out; omega
                    obtain ⟨r, hr1, hr2, hr3, hr4⟩ := HPA.out.pred HP.out hbm hbs (by rw [hnq]; omega)
                    have hbn : bi < n := (HED.out _ hr1).2
                    have d0 := (HPS.out.below.cell (p := ⟨gn, q, none⟩) (HNDY.out q bi hbi).1).trans (HNDY.out q bi hbi).2
                    obtain ⟨aL, cL, hrow, hrow2⟩ := HRFY.out.row bi hbn
                    have d1 := (HPS.out.below.cell (p := ⟨fb, bi, none⟩) HRFY.out.lt).trans hrow
                    have HROW := Lib.hid hrow2
                    have HR : Hid ((r, bi) ∈ E ∧ (u2 r).isSome = true) := ⟨hr1, hr4⟩
                    have HBI : Hid (bi ∈ nodes ∧ bi ≠ s ∧ num bi = q) := ⟨hbm, hbs, hnq⟩
                    obtain ⟨X, hX⟩ : ∃ X, X = (outs (flip E) bi).length := ⟨_, rfl⟩
                    have hXl : X ≤ 1000000 := by rw [hX]; exact Nat.le_trans (outs_len _ _) HLF.out
                    have HX := Lib.hid hX
                    rw [← hX] at d1
                    clear hbi hbm hbs hnq hr1 hr2 hr3 hr4 hrow hrow2 hX
                    go_wp2
                    go_loopw [20, 113] (fun v20 v113 wr => ∃ (k : Nat) (co : Option Nat), k ≤ X ∧ v20 = uv co ∧ v113 = .int .i64 k ∧ Hid (BestL u2 s ((outs (flip E) bi).take k) co) ∧ Hid (PS wy wr ub vu n u2)) (fun _ v113 _ => X - (intOf v113).toNat)
                    case atStart => exact ⟨0, none, by omega, rfl, rfl, BestL.start, HPS⟩
                    case round =>
                      clear HPS
                      obtain ⟨k, co, hk, rfl, rfl, HBL, HPS⟩ := hrel
                      by_cases hlt : k < X
                      · obtain ⟨p, hp⟩ : ∃ p, (outs (flip E) bi)[k]? = some p := ⟨_, List.getElem?_eq_getElem (by have := HX.out; omega)⟩
                        obtain ⟨gL, rfl, hgl, hcp⟩ := HROW.out k p hp
                        have hpn : p < n := (HED.out _ (mem_ins.1 (List.mem_of_getElem? hp))).1
                        have d2 := (HPS.out.below.cell (p := ⟨gL, k, none⟩) hgl).trans hcp
                        have d3 := HPS.out.var
                        have d4 := HPS.out.up.cell hpn
                        have htk : (outs (flip E) bi).take (k + 1) = (outs (flip E) bi).take k ++ [p] := by rw [List.take_add_one, hp]; rfl
                        have HTK := Lib.hid htk
                        clear hp hgl hcp htk
                        cases hup : u2 p with
                        | none =>
                          rw [hup] at d4
                          simp only [uv] at d4
                          have HB2 : Hid (BestL u2 s ((outs (flip E) bi).take (k + 1)) co) := by rw [HTK.out]; exact HBL.out.skip hup
                          clear hup
                          go_wp2
                          exact ⟨⟨k + 1, co, by omega, rfl, by go_num, HB2, HPS⟩, by simp [intOf]; omega⟩
                        | some y =>
                          rw [hup] at d4
                          simp only [uv] at d4
                          have HUS : Hid ((u2 p).isSome = true) := by show (u2 p).isSome = true; rw [hup]; rfl
                          clear hup
                          cases co with
                          | none =>
                            have HB2 : Hid (BestL u2 s ((outs (flip E) bi).take (k + 1)) (some p)) := by rw [HTK.out]; exact HBL.out.first HUS.out
                            simp only [uv] at *
                            go_wp2
                            exact ⟨⟨k + 1, some p, by omega, rfl, by go_num, HB2, HPS⟩, by simp [intOf]; omega⟩
                          | some c =>
                            have m1 := (HPS.out.below.cell (p := ⟨vn, 0, none⟩) (cell_lt HVN)).trans HVN
                            have m2 := HRNY.out.of_block (HPS.out.below.block nb HRNY.out.lt)
                            have HM := Lib.hid (meet_any wr n s vn vu nb ub HP.out HPA.out.st (fun i hi => rch_lt hs HED.out ((HP.out.reach i).1 hi)) m1 HPS.out.var m2 HPS.out.up p c HUS.out HBL.out.1)
                            clear m1 m2
                            simp only [uv] at *
                            go_wp2_with fail
                            refine HM.out.mono ?_
                            rintro e w3 ⟨c3, rfl, g1, g2, g3, g4', g5⟩
                            have HB2 : Hid (BestL u2 s ((outs (flip E) bi).take (k + 1)) (some c3)) := by rw [HTK.out]; exact HBL.out.meet HUS.out g1 g2 g3 g4'
                            have HPS3 : Hid (PS wy w3 ub vu n u2) := HPS.out.more g5
                            clear g1 g2 g3 g4' g5 HM
                            go_wp2
                            exact ⟨⟨k + 1, some c3, by omega, rfl, by go_num, HB2, HPS3⟩, by simp [intOf]; omega⟩
                      · obtain rfl : X = k := by omega
                        have hbl := HBL.out
                        rw [List.take_of_length_le (by rw [← HX.out]; exact Nat.le_refl _)] at hbl
                        obtain ⟨c, rfl⟩ := hbl.some HR.out.1 HR.out.2
                        have hnx := pass_next HP.out HBG.out HPA.out HBI.out.1 HBI.out.2.1 (by rw [HBI.out.2.2]; omega) hbl.best HPH.out.1 HPH.out.2
                        have e1 : ((q + 1 : Nat) : Int) - 1 - 1 = (q : Int) - 1 := by omega
                        rw [e1] at hnx
                        have HNX := Lib.hid hnx
                        have d3 := HPS.out.var
                        have d4 := HPS.out.up.cell hbn
                        have d5 := HPS.out.up.frozen bi
                        have HPS2 : Hid (PS wy (wr.setCell ⟨ub, bi, none⟩ (.int .i64 (c : Int))) ub vu n (setU u2 bi c)) := HPS.out.set bi c
                        clear hnx e1 hbl HBL
                        have HM2 : Hid (q + 1 ≤ nodes.length) := by show _ ≤ _; omega
                        cases hub : u2 bi with
                        | none =>
                          rw [hub] at d4
                          have hdec : decide (u2 bi ≠ some c) = true := by rw [hub]; simp
                          rw [hdec, Bool.or_true] at HNX
                          have HDC := Lib.hid hdec
                          clear hub hdec
                          simp only [uv] at *
                          have hne2 : ((-1 : Int) != (c : Int)) = true := by simp
                          go_wp2
                          go_roundg q
                          case measure => have := HG4.out; omega
                          case rel => exact ⟨true, q, _, _, rfl, rfl, rfl, rfl, HM2, HPS2, HNX.out.1, HNX.out.2.1, fun _ => HNX.out.2.2 trivial⟩
                        | some x =>
                          rw [hub] at d4
                          by_cases hxc : x = c
                          · subst hxc
                            have hdec : decide (u2 bi ≠ some x) = false := by rw [hub]; simp
                            rw [hdec, Bool.or_false, setU_same hub] at HNX
                            have HDC := Lib.hid hdec
                            clear hub hdec HPS2
                            simp only [uv] at *
                            go_wp2
                            go_roundg q
                            case measure => have := HG4.out; omega
                            case rel => exact ⟨c2, q, _, _, rfl, rfl, rfl, rfl, HM2, HPS, HNX.out.1, HNX.out.2⟩
                          · have hdec : decide (u2 bi ≠ some c) = true := by rw [hub]; simp [hxc]
                            rw [hdec, Bool.or_true] at HNX
                            have hne2 : ((x : Int) != (c : Int)) = true := by simp; omega
                            have HDC := Lib.hid hdec
                            clear hub hdec hxc
                            simp only [uv] at *
                            go_wp2
                            go_roundg q
                            case measure => have := HG4.out; omega
                            case rel => exact ⟨true, q, _, _, rfl, rfl, rfl, rfl, HM2, HPS2, HNX.out.1, HNX.out.2.1, fun _ => HNX.out.2.2 trivial⟩
end Go.Proofs.YtnmfbaahabcocaaDoor
end
