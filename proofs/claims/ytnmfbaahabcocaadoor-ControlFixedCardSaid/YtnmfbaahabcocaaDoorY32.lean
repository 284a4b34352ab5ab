/- Joined by my own program, in build order: Marks. -/
import Derived.Test.YtnmfbaahabcocaaDoorY10
import Derived.Deep.RegionLaw
import Derived.BigRegion
import Derived.Deep.DeepCutAuto
import Derived.Deep.CutBlock
set_option linter.unusedVariables false
set_option linter.unusedSimpArgs false
section
namespace Go.Proofs.YtnmfbaahabcocaaDoor
open Go.RowKit
structure WorkSt (w0 wr : World) (tb ib n : Nat) (L : Nat → List Nat) (vw : Value) (work : List Nat) (R : Nat → Bool) (F : Nat → Value) : Prop where
  table : wr.rowIs tb 26 n F
  rows : Fam w0.heap.size wr n F L
  marks : wr.rowIs ib 4 n (fun i => .bool (R i))
  own : wr.ownsRow w0.heap.size 3 1 vw work.length (work.map iv)
  apart : ∀ k, k < n → (F k).ownBlock = none ∨ (F k).ownBlock ≠ vw.ownBlock
  below : Below w0.heap.size w0 wr
  high : w0.heap.size ≤ ib
theorem WorkSt.shape {w0 wr : World} {tb ib n : Nat} {L : Nat → List Nat} {vw : Value} {work : List Nat} {R : Nat → Bool} {F : Nat → Value} (h : WorkSt w0 wr tb ib n L vw work R F) : ∃ a cap, vw = .slice a work.length cap := by
  rcases h.own.2 with ⟨h1, h2⟩ | ⟨g, cap, cur, h1, -⟩
  · exact ⟨none, 0, by rw [h1, h2]⟩
  · exact ⟨_, cap, h1⟩
theorem WorkSt.pop {w0 wr : World} {tb ib n i : Nat} {L : Nat → List Nat} {a : Option Addr} {cap : Nat} {ws : List Nat} {R : Nat → Bool} {F : Nat → Value} (h : WorkSt w0 wr tb ib n L (.slice a (ws.length + 1) cap) (ws ++ [i]) R F) :
    ∃ g, a = some ⟨g, 0, none⟩ ∧ wr.cell? ⟨g, ws.length, none⟩ = some (.int .i64 (i : Int)) ∧ ws.length + 1 ≤ cap ∧ cap ≤ maxLen ∧ WorkSt w0 wr tb ib n L (.slice (some ⟨g, 0, none⟩) ws.length cap) ws R F := by
  have hown := h.own
  rw [List.length_append, List.map_append] at hown
  rcases hown.2 with ⟨h1, -⟩ | ⟨g, cap', cur, h1, h2, h3, h4, h5, h6, h7⟩
  · simp at h1
  · simp only [Value.slice.injEq] at h1
    obtain ⟨rfl, -, rfl⟩ := h1
    have hc := World.ownsRow.cellAt hown ws.length (by simp)
    refine ⟨g, rfl, ?_, by simpa using h4, h5, h.table, h.rows, h.marks, ownsRow_pop (by simp) hown, h.apart, h.below, h.high⟩
    rw [hc]
    simp [iv]
theorem WorkSt.mark {w0 wr : World} {tb ib n i : Nat} {L : Nat → List Nat} {vw : Value} {work : List Nat} {R : Nat → Bool} {F : Nat → Value} (h : WorkSt w0 wr tb ib n L vw work R F) :
    WorkSt w0 (wr.setCell ⟨ib, i, none⟩ (.bool true)) tb ib n L vw work (fun j => R j || decide (j = i)) F := by
  obtain ⟨c, hc, -⟩ := h.marks
  have hne : tb ≠ ib := by
    rintro rfl
    obtain ⟨c', hc', -⟩ := h.table
    rw [hc] at hc'
    injection hc' with hc'
    injection hc' with _ ht _
    exact absurd ht (by decide)
  have hvw : vw.ownBlock = none ∨ vw.ownBlock ≠ some ib := by
    rcases h.own.2 with ⟨h1, -⟩ | ⟨g, cap', cur, h1, h2, h3, -⟩
    · left; rw [h1]; rfl
    · right
      rw [h1]
      intro e
      simp [Value.ownBlock] at e
      subst e
      rw [h3] at hc
      injection hc with hc
      injection hc with _ ht _
      exact absurd ht (by decide)
  refine ⟨h.table.setOther hne _, h.rows.keep (grown_setCell _ _ _ _) (fun k hk => .inr (h.rows.notBlock hc (by decide) hk)), (h.marks.set i _).congr (fun j _ => ?_), h.own.kept (grown_setCell _ _ _ _) hvw, h.apart, h.below.setCell h.high _, h.high⟩
  by_cases e : j = i
  · simp [e]
  · simp [e]
theorem WorkSt.lay {w0 wr w1 : World} {tb ib n g : Nat} {L : Nat → List Nat} {vw v' : Value} {ws xs : List Nat} {R : Nat → Bool} {F : Nat → Value} (h : WorkSt w0 wr tb ib n L vw ws R F) (hv : v'.ownBlock = some g)
    (hown : w1.ownsRow w0.heap.size 3 1 v' (ws.length + xs.length) (ws.map iv ++ xs.map iv)) (hgrow : wr.grownBy w1 vw.ownBlock) (hat : vw.ownBlock = some g ∨ g = wr.heap.size) : WorkSt w0 w1 tb ib n L v' (ws ++ xs) R F := by
  have notOwn : ∀ (c : Nat) (cur : Array Value) (t : TypeId), wr.heap[c]? = some (.cells cur t (0, 0)) → t ≠ 3 → some c ≠ vw.ownBlock := by
    intro c cur t hc ht e
    rcases h.own.2 with ⟨h1, -⟩ | ⟨g', cap', cur', h1, h2, h3, -⟩
    · rw [h1] at e; simp [Value.ownBlock] at e
    · rw [h1] at e
      simp [Value.ownBlock] at e
      subst e
      rw [h3] at hc
      injection hc with hc
      injection hc with _ h4 _
      exact ht h4.symm
  obtain ⟨ct, hct, -⟩ := h.table
  obtain ⟨cm, hcm, -⟩ := h.marks
  refine ⟨h.table.of_block (hgrow.block tb h.table.lt (notOwn tb _ _ hct (by decide))), h.rows.keep hgrow h.apart, h.marks.of_block (hgrow.block ib h.marks.lt (notOwn ib _ _ hcm (by decide))), ?_, fun k hk => ?_, h.below.grown hgrow h.below.size (fun q hq => ?_), h.high⟩
  · rw [List.length_append, List.map_append]; exact hown
  · rw [hv]
    rcases hat with e | e
    · rw [← e]; exact h.apart k hk
    · cases hb : (F k).ownBlock with
      | none => exact .inl rfl
      | some b =>
        right
        have := (h.rows.lt hk hb).2
        intro e2
        simp at e2; omega
  · exact (h.own.lt q hq).1
set_option maxHeartbeats 4000000 in
set_option maxRecDepth 100000 in
theorem marks_any (w : World) (n : Nat) (hn : n ≤ 100001) (v : Value) (E : List (Nat × Nat)) (hlen : E.length ≤ 1000000) (hv : RE w v (E.map toE)) (hed : ∀ e ∈ E, e.1 < n ∧ e.2 < n) (g s : Nat) (hs : s < n) (hg : w.cell? ⟨g, 0, none⟩ = some (.int .i64 s)) :
    Calls Tryd.prog 27 #[.int .i64 n, v, .slice (some ⟨g, 0, none⟩) 1 1] w fun e w' => ∃ (ib : Nat) (R : Nat → Bool), e = .returned (.slice (some ⟨ib, 0, none⟩) n n) ∧ (∀ i, R i = true ↔ Rch E s i) ∧ w'.rowIs ib 4 n (fun i => .bool (R i)) ∧ Below w.heap.size w w' := by
  obtain ⟨a, m, cap, rfl, hm, hmax, hel⟩ := hv
  have H := Lib.hid hel
  have hm2 : E.length = m := by rw [← hm, List.length_map]
  have HN := Lib.hid hm2
  have HED := Lib.hid hed
  have hml : m ≤ 1000000 := by omega
  have hmk := run_make_row' 53 26 (.slice none 0 0) 24 Tryd.underlying53 info_ints rfl .i64 .i64 n (by omega) (by omega)
  obtain ⟨i0, hi, hz0, hz1, hz2⟩ := info_parts info_int
  clear hel hm hm2 hed hlen
  go_enter Tryd.func27, Tryd.ntmps27
  go_wp2
  clear hmk
  go_loopw [17] (fun v17 wr => ∃ k : Nat, k ≤ m ∧ v17 = .int .i64 k ∧ Hid (AdjP w w.heap.size n (outs (E.take k)) wr)) (fun v17 _ => m - (intOf v17).toNat)
  case atStart => exact ⟨0, by omega, rfl, fun _ => .slice none 0 0, World.rowIs_made _ _ _ _, Fam.start _ _ _, (Below.refl _ _).alloc (Nat.le_refl _) _⟩
  case round =>
    obtain ⟨k, hk, rfl, HADJ⟩ := hrel
    by_cases hlt : k < m
    · obtain ⟨F, HR, HF, HB'⟩ := HADJ
      have HB : Hid (Below w.heap.size w wr) := HB'
      clear HB'
      obtain ⟨e, he⟩ : ∃ e, E[k]? = some e := ⟨_, List.getElem?_eq_getElem (by rw [HN.out]; exact hlt)⟩
      have HEK := Lib.hid he
      obtain ⟨f, t⟩ := e
      obtain ⟨b0, off, rfl, hbl, hc0, hc1⟩ := H.out k ⟨(f : Int), (t : Int)⟩ (by rw [List.getElem?_map, he]; rfl)
      obtain ⟨hf, ht⟩ := HED.out _ (List.mem_of_getElem? he)
      have hf : f < n := hf
      have ht : t < n := ht
      have d0 : wr.cell? ⟨b0, off + k * 2, none⟩ = some (.int .i64 f) := (HB.out.cell (p := ⟨b0, off + k * 2, none⟩) hbl).trans hc0
      have d1 : wr.cell? ⟨b0, off + k * 2 + 1, none⟩ = some (.int .i64 t) := (HB.out.cell (p := ⟨b0, off + k * 2 + 1, none⟩) hbl).trans hc1
      clear hc0 hc1 he
      go_upto_block 1 with (fail)
      go_cut [] (fun wx => Hid (AdjP w w.heap.size n (outs (E.take (k + 1))) wx))
      case first =>
        go_wp2
        generalize hwa : World.alloc wr _ = wa
        obtain ⟨eb, heb⟩ : ∃ eb, eb = wr.heap.size := ⟨_, rfl⟩
        have S0 : wa.cell? ⟨eb, 0, none⟩ = some (.int .i64 f) := by rw [← hwa, heb]; simp
        have S1 : wa.cell? ⟨eb, 1, none⟩ = some (.int .i64 t) := by rw [← hwa, heb]; simp
        have RA : Hid (wa.rowIs w.heap.size 26 n F) := by rw [← hwa]; exact HR.alloc _
        have FA : Hid (Fam w.heap.size wa n F (outs (E.take k))) := by rw [← hwa]; exact HF.below ((Below.refl _ _).alloc (Nat.le_refl _) _)
        have BA : Hid (Below w.heap.size w wa) := by rw [← hwa]; exact HB.out.alloc HB.out.size _
        have NE : Hid ((F f).ownBlock ≠ some eb) := by
          show (F f).ownBlock ≠ some eb
          rw [heb]
          intro h
          have := (HF.lt hf h).2
          omega
        have hff : f < n := hf
        have hlo := outs_len (E.take k) f
        have htk : (E.take k).length ≤ k := List.length_take_le _ _
        rw [← heb]
        clear hwa heb
        have s0 : wa.cell? ⟨eb, 0, none⟩ = some (.int .i64 f) := S0
        have s1 : wa.cell? ⟨eb, 1, none⟩ = some (.int .i64 t) := S1
        have s2 : wa.cell? ⟨w.heap.size, f, none⟩ = some (F f) := RA.out.cell hff
        have s3 : wa.frozen? ⟨w.heap.size, f, none⟩ = false := RA.out.frozen f
        have hown := FA.out.own f hff
        have hbase : w.heap.size ≤ wa.heap.size := BA.out.size
        obtain ⟨ov, hov⟩ : ∃ ov, ov = F f := ⟨_, rfl⟩
        have nb1 : ov.ownBlock ≠ some eb := by rw [hov]; exact NE.out
        have nb2 : ov.ownBlock ≠ some w.heap.size := by
          rw [hov]
          obtain ⟨c, hc, -⟩ := RA.out
          exact FA.out.notBlock hc (by decide) hff
        rw [← hov] at s2 hown
        have hbl1 : eb < wa.heap.size := cell_lt s0
        have hbl2 : w.heap.size < wa.heap.size := RA.out.lt
        have hf0 : (0 : Int) ≤ (f : Int) := by omega
        have hf1 : (f : Int) < (n : Int) := by omega
        have HOV := Lib.hid hov
        have BAL : Below wa.heap.size wa (wa.alloc (.cells #[.int .i64 t] 3)).drew := ((Below.refl _ _).alloc (Nat.le_refl _) _).drew
        clear hov
        go_region_law (first | ((refine step_append_lies _ (by rfl) _ _ _ (by rfl) w.heap.size 3 i0 _ 1 8 Tryd.underlying26 hi hz0 hz1 hz2 rfl (by omega) ov (outs (E.take k) f).length ((outs (E.take k) f).map iv) (by rfl) ((hown.alloc _).drew) ⟨wa.heap.size, 0, none⟩ 1 1 [.int .i64 t] (by rfl) (by rfl) (World.news_of_block (cs := #[.int .i64 t]) (t := 3) (fr := (0, 0)) (heap_alloc_new wa _)) (by simp [Value.oneCell']) (by omega) (by unfold maxLen; omega) (by omega) (by simp; omega) (wa.heap.size + 1) (by simp) ?_; intro gg gcap w1 hown1 hgrow hat hlt; have k0 := (hgrow.cell_far ⟨eb, 0, none⟩ (by simp; omega) (Ne.symm nb1)).trans ((BAL.cell (p := ⟨eb, 0, none⟩) hbl1).trans s0); have k1 := (hgrow.cell_far ⟨eb, 1, none⟩ (by simp; omega) (Ne.symm nb1)).trans ((BAL.cell (p := ⟨eb, 1, none⟩) hbl1).trans s1); have k2 := (hgrow.cell_far ⟨w.heap.size, f, none⟩ (by simp; omega) (Ne.symm nb2)).trans ((BAL.cell (p := ⟨w.heap.size, f, none⟩) hbl2).trans s2); have k3 := (hgrow.frozen_far ⟨w.heap.size, f, none⟩ (by simp; omega) (Ne.symm nb2)).trans ((BAL.frozen (p := ⟨w.heap.size, f, none⟩) hbl2).trans s3))))
        all_goals
          have h := adj_done hff RA.out FA.out BA.out (Nat.le_refl _) HOV.out hown1 hgrow hat
          rw [outs_take E k f t HEK.out] at h
          have HAN := Lib.hid h
          clear h hown1 hgrow hat k0 k1 k2 k3
          first
            | (go_meet; exact HAN)
            | (simp only [Exit.inBlock]; go_meet; exact HAN)
            | (go_wp2; go_meet; exact HAN)
      case rest =>
        go_wp2
        exact ⟨⟨k + 1, by omega, by go_num, hcut⟩, by simp [intOf]; omega⟩
    · obtain rfl : m = k := by omega
      have HADJ2 : Hid (AdjP w w.heap.size n (outs E) wr) := by
        have h := HADJ.out
        rwa [List.take_of_length_le (by rw [HN.out]; exact Nat.le_refl _)] at h
      clear HADJ
      obtain ⟨F, RT, FT, BT⟩ := HADJ2
      have hmk2 := run_make_row' 36 4 (.bool false) 1 Tryd.underlying36 info_bool rfl .i64 .i64 n (by omega) (by omega)
      obtain ⟨wo, rfl⟩ : ∃ wo : World, wo = wr := ⟨_, rfl⟩
      have hgl := cell_lt hg
      have hgl : g < w.heap.size := hgl
      have W1 : Hid (WorkSt w (wo.alloc (.cells (madeCells #[.bool false] n) 4)) w.heap.size wo.heap.size n (outs E) (.slice none 0 0) [] (fun _ => false) F) :=
        ⟨RT.alloc _, FT.below ((Below.refl _ _).alloc (Nat.le_refl _) _), World.rowIs_made _ _ _ _, World.ownsRow_nil _ _ _ _, fun k _ => (by
          cases hq : (F k).ownBlock with
          | none => exact .inl rfl
          | some b => exact .inr (by simp [Value.ownBlock])), BT.alloc BT.size _, BT.size⟩
      have HG : (wo.alloc (.cells (madeCells #[.bool false] n) 4)).cell? ⟨g, 0, none⟩ = some (.int .i64 s) := ((BT.alloc BT.size _).cell (p := ⟨g, 0, none⟩) hgl).trans hg
      clear RT FT BT
      generalize hwm : World.alloc wo _ = wm at *
      obtain ⟨ib, hib⟩ : ∃ ib, ib = wo.heap.size := ⟨_, rfl⟩
      have HMK : Hid ((Instr.makeSlice 36 (.int .i64 (n : Int)) (.int .i64 (n : Int))).run Tryd.prog wo = .ok (.slice (some ⟨ib, 0, none⟩) n n) wm) := by rw [hib, ← hwm]; exact hmk2 wo
      rw [← hib] at W1
      have hmk3 := HMK.out
      clear hmk2 HMK hwm hib
      go_upto_region 8 with (fail)
      go_cut [11] (fun v11 wx => ∃ c1 g1, v11 = .slice (some ⟨g1, 0, none⟩) 1 c1 ∧ Hid (WorkSt w wx w.heap.size ib n (outs E) (.slice (some ⟨g1, 0, none⟩) 1 c1) [s] (fun _ => false) F))
      case first =>
        go_wp2_with (at_builtin; (refine wpList_append_lies _ rfl _ _ 26 rfl w.heap.size 3 i0 (.int .i64 0) 1 8 Tryd.underlying26 hi hz0 hz1 hz2 rfl (by decide) (.slice none 0 0) 0 [] rfl (World.ownsRow_nil _ _ _ _) ⟨g, 0, none⟩ 1 1 [.int .i64 s] rfl rfl (one_at HG) (one_cell _ rfl) (by omega) (by unfold maxLen; omega) (by omega) W1.out.below.size wm.heap.size rfl ?_)
                     intro g1 c1 w1 hown1 hg1 hat1 hlt1
                     have W2 : Hid (WorkSt w w1 w.heap.size ib n (outs E) (.slice (some ⟨g1, 0, none⟩) (0 + 1) c1) ([] ++ [s]) (fun _ => false) F) := W1.out.lay rfl hown1 hg1 hat1
                     clear hown1 hg1 hat1 hlt1)
        go_meet
        exact ⟨c1, g1, rfl, W2⟩
      case rest =>
        obtain ⟨c1, g1, rfl, W2⟩ := hcut
        clear hmk3 HG
        have hpot := pot_le (outs E) (fun _ => false) E.length (outs_len E) n
        have hEm : E.length = m := HN.out
        have hnm : n * E.length ≤ 100001 * 1000000 := Nat.mul_le_mul hn (by omega)
        have M2 : Hid (MInv E s n [s] (fun _ => false)) := ⟨fun i hi => by rw [List.mem_singleton.1 hi]; exact hs, fun i hi => by rw [List.mem_singleton.1 hi]; exact .here, (fun i h => by cases h), (fun i h => by cases h), .inr (by simp)⟩
        obtain ⟨B, hB1, hB2⟩ : ∃ B, 1 + pot (outs E) (fun _ => false) n = B ∧ B ≤ 200000000000 := ⟨_, rfl, by omega⟩
        have HB1 := Lib.hid hB1
        clear hpot hnm hEm hB1
        go_wp2
        go_loopg [11] (1 + pot (outs E) (fun _ => false) n) (fun gk v11 wr => ∃ (work : List Nat) (R : Nat → Bool) (a : Option Addr) (cap : Nat), v11 = .slice a work.length cap ∧ Hid (gk = work.length + pot (outs E) R n) ∧ Hid (work.length + pot (outs E) R n ≤ B) ∧ Hid (WorkSt w wr w.heap.size ib n (outs E) (.slice a work.length cap) work R F) ∧ Hid (MInv E s n work R))
        case atStart => exact ⟨[s], fun _ => false, some ⟨g1, 0, none⟩, c1, rfl, rfl, Nat.le_of_eq HB1.out, W2, M2⟩
        case round =>
          obtain ⟨work, R, aw, capw, rfl, HGK, HWB, WS, MI⟩ := hrel
          rcases list_last work with rfl | ⟨ws, i, rfl⟩
          · go_wp2
            go_ret
            refine ⟨ib, R, rfl, fun i => MI.out.done i, WS.out.marks, WS.out.below⟩
          · simp only [List.length_append, List.length_cons, List.length_nil, Nat.zero_add] at *
            obtain ⟨g2, rfl, hcell, hcap, hcapm, WP⟩ := WS.out.pop
            have hcapm : capw ≤ 9223372036854775807 := by unfold maxLen at hcapm; omega
            have WPH := Lib.hid WP
            have hin : i < n := MI.out.lt i (by simp)
            have hmi := WP.marks.cell hin
            have hmf := WP.marks.frozen i
            have hti := WP.table.cell hin
            obtain ⟨q, hq⟩ : ∃ q, q = ws.length := ⟨_, rfl⟩
            have HQ := Lib.hid hq
            rw [← hq] at hcell hcap HGK HWB
            clear WP hq
            cases hR : R i with
            | true =>
              rw [hR] at hmi
              have M3 : Hid (MInv E s n ws R) := MI.out.skip hR
              have W3 : Hid (WorkSt w wr w.heap.size ib n (outs E) (.slice (some ⟨g2, 0, none⟩) ws.length capw) ws R F) := WPH
              rw [← HQ.out] at W3 ⊢
              have HR := Lib.hid hR
              clear hR
              go_wp2
              go_roundg (q + pot (outs E) R n)
              case measure => have := HGK.out; omega
              case rel => exact ⟨ws, R, some ⟨g2, 0, none⟩, capw, by rw [HQ.out], by rw [HQ.out]; rfl, by have := HWB.out; rw [HQ.out] at this; show ws.length + pot (outs E) R n ≤ B; omega, by rw [← HQ.out]; exact W3, M3⟩
            | false =>
              rw [hR] at hmi
              have M3 : Hid (MInv E s n (ws ++ outs E i) (fun j => R j || decide (j = i))) := MI.out.take HED.out
              have W3 : Hid (WorkSt w (wr.setCell ⟨ib, i, none⟩ (.bool true)) w.heap.size ib n (outs E) (.slice (some ⟨g2, 0, none⟩) ws.length capw) ws (fun j => R j || decide (j = i)) F) := WPH.out.mark
              have hp := pot_mark (outs E) R i hR n
              rw [if_pos hin] at hp
              have HP := Lib.hid hp
              have HR := Lib.hid hR
              rw [← HQ.out] at W3 ⊢
              clear hp hR
              go_upto_region 14 with (fail)
              generalize hw3 : World.setCell wr _ _ = w3
              rw [hw3] at W3
              have hti2 : w3.cell? ⟨w.heap.size, i, none⟩ = some (F i) := W3.out.table.cell hin
              have hownF := W3.out.rows.own i hin
              have hnilF := W3.out.rows.nil i hin
              have hsz3 := W3.out.below.size
              have hlo := outs_len E i
              have hEm : E.length = m := HN.out
              have hql : q ≤ 200000000000 := by have := HWB.out; omega
              clear hw3 hti hmi hmf hcell
              cases hL : outs E i with
              | nil =>
                rw [hnilF hL] at hti2
                have hLH := Lib.hid hL
                clear hnilF hownF hL
                go_wp2_with (at_builtin; (refine wpList_append_own_none rfl _ _ 26 rfl w.heap.size 3 i0 1 Tryd.underlying26 hi (.slice (some ⟨g2, 0, none⟩) q capw) q (ws.map iv) rfl ?_ rfl ?_)
                             · have := W3.out.own; rw [← HQ.out] at this; exact this)
                go_roundg (q + pot (outs E) (fun j => R j || decide (j = i)) n)
                case measure => have := HGK.out; have := HP.out; rw [hLH.out] at this; simp at this; omega
                case rel =>
                  have M4 := M3.out
                  rw [hLH.out, List.append_nil] at M4
                  have e2 : pot (outs E) (fun j => R j || decide (j = i)) n = pot (outs E) R n := by have := HP.out; rw [hLH.out] at this; simpa using this
                  exact ⟨ws, fun j => R j || decide (j = i), some ⟨g2, 0, none⟩, capw, by rw [HQ.out], by rw [HQ.out]; rfl, (by have := HWB.out; rw [HQ.out] at this; show ws.length + pot (outs E) _ n ≤ B; omega), by rw [← HQ.out]; exact W3, M4⟩
              | cons j0 js =>
                have hpos : 0 < (outs E i).length := by rw [hL]; simp
                clear hL hnilF
                obtain ⟨gi, capi, hFi⟩ : ∃ gi capi, F i = .slice (some ⟨gi, 0, none⟩) (outs E i).length capi := by
                  rcases hownF.2 with ⟨h1, h2⟩ | ⟨g, cap', cur, h1, -⟩
                  · omega
                  · exact ⟨g, cap', h1⟩
                rw [hFi] at hti2 hownF
                have hcells : ∀ (j : Nat) (u : Value), ((outs E i).map iv)[j]? = some u → w3.cell? ((Addr.mk gi 0 none).add j) = some u := fun j u hj => by
                  have hjl : j < (outs E i).length := by
                    have := (List.getElem?_eq_some_iff.1 hj).1
                    simpa using this
                  have e : (Addr.mk gi 0 none).add j = ⟨gi, j, none⟩ := by unfold Addr.add; split <;> simp_all
                  rw [e, World.ownsRow.cellAt hownF j (by omega), hj]
                have HCS := Lib.hid hcells
                have HFI := Lib.hid hFi
                clear hcells hFi hownF
                obtain ⟨X, hX⟩ : ∃ X, X = outs E i := ⟨_, rfl⟩
                have HXE := Lib.hid hX
                rw [← hX] at hti2 hpos hlo
                clear hX
                go_wp2_with (at_builtin; (refine wpList_append_lies _ rfl _ _ 26 rfl w.heap.size 3 i0 (.int .i64 0) 1 8 Tryd.underlying26 hi hz0 hz1 hz2 rfl (by decide) (.slice (some ⟨g2, 0, none⟩) q capw) q (ws.map iv) rfl ?_ ⟨gi, 0, none⟩ X.length capi (X.map iv) rfl (by simp) ?_ ?_ hpos (by unfold maxLen; omega) (by omega) hsz3 w3.heap.size rfl ?_)
                             · have := W3.out.own; rw [← HQ.out] at this; exact this
                             · rw [HXE.out]; exact HCS.out
                             · intro u hu; obtain ⟨y, _, rfl⟩ := List.mem_map.1 hu; rfl
                             intro g4 c4 w4 hown4 hg4 hat4 hlt4
                             have W4 : Hid (WorkSt w w4 w.heap.size ib n (outs E) (.slice (some ⟨g4, 0, none⟩) (q + X.length) c4) (ws ++ X) (fun j => R j || decide (j = i)) F) := W3.out.lay rfl (by rw [← HQ.out]; exact hown4) hg4 hat4
                             clear hown4 hg4 hat4 hlt4)
                go_roundg (q + X.length + pot (outs E) (fun j => R j || decide (j = i)) n)
                case measure => have := HGK.out; have := HP.out; rw [← HXE.out] at this; omega
                case rel =>
                  have M4 := M3.out
                  rw [← HXE.out] at M4
                  have e2 : pot (outs E) (fun j => R j || decide (j = i)) n + X.length = pot (outs E) R n := by have := HP.out; rw [← HXE.out] at this; exact this
                  have e3 : (ws ++ X).length = q + X.length := by rw [List.length_append, HQ.out]
                  refine ⟨ws ++ X, fun j => R j || decide (j = i), some ⟨g4, 0, none⟩, c4, by rw [e3], ?_, ?_, by rw [e3]; exact W4, M4⟩
                  · show _ = (ws ++ X).length + _
                    rw [e3]
                  · have := HWB.out
                    show (ws ++ X).length + _ ≤ B
                    rw [e3]; omega
end Go.Proofs.YtnmfbaahabcocaaDoor
end
