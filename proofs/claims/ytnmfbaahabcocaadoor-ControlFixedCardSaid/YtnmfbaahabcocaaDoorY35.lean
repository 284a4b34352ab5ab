/- Joined by my own program, in build order: RTree. -/
import Derived.Test.YtnmfbaahabcocaaDoorY34
set_option linter.unusedVariables false
set_option linter.unusedSimpArgs false
section
namespace Go.Proofs.YtnmfbaahabcocaaDoor
open Go.RowKit
theorem oversL_len {E : List (Nat × Nat)} {s : Nat} {u : Nat → Option Nat} (T : Tree E s u) {b : Nat} (hb : Rch E s b) : ∀ m, (oversL E s m b).length = deep u s b m
  | 0 => rfl
  | m + 1 => by
    rw [oversL_succ, List.length_append, oversL_len T hb m, deep]
    by_cases h : Anc u s b m
    · rw [if_pos h, if_pos (domB_iff.2 ((T.dom b m hb).1 h))]; rfl
    · rw [if_neg h, if_neg (fun k => h ((T.dom b m hb).2 (domB_iff.1 k)))]; rfl
theorem mem_overs {E : List (Nat × Nat)} {s n a b : Nat} : a ∈ oversL E s n b ↔ a < n ∧ Dom E s a b := by
  unfold oversL; rw [List.mem_filter, List.mem_range, domB_iff]
def nxv (s : Nat) (u : Nat → Option Nat) (b : Nat) (l : List Nat) : Int := match (if b = s then none else u b) with
  | none => -1
  | some p => if p ∈ l then p else -1
theorem nxv_nil (s : Nat) (u : Nat → Option Nat) (b : Nat) : nxv s u b [] = -1 := by
  unfold nxv; cases (if b = s then none else u b) <;> simp
theorem nxv_full {E : List (Nat × Nat)} {s n : Nat} {u : Nat → Option Nat} (T : Tree E s u) (hn : ∀ i, Rch E s i → i < n) (b : Nat) : nxv s u b (oversL E s n b) = upI s u b := by
  unfold nxv upI
  by_cases h : b = s
  · simp [h]
  · rw [if_neg h]
    cases hp : u b with
    | none => rfl
    | some p =>
      obtain ⟨r1, r2, r3, r4⟩ := T.par h hp
      show (if p ∈ oversL E s n b then (p : Int) else -1) = p
      rw [if_pos (mem_overs.2 ⟨hn p r2, r4⟩)]
theorem nxv_step {E : List (Nat × Nat)} {s n : Nat} {u : Nat → Option Nat} (T : Tree E s u) (hn : ∀ i, Rch E s i → i < n) {b x : Nat} (hx : x ∈ oversL E s n b) (l : List Nat) :
    (x = b → nxv s u b (l ++ [x]) = nxv s u b l) ∧ (x ≠ b → (oversL E s n x).length + 1 ≠ (oversL E s n b).length → nxv s u b (l ++ [x]) = nxv s u b l) ∧ (x ≠ b → (oversL E s n x).length + 1 = (oversL E s n b).length → nxv s u b (l ++ [x]) = x) := by
  obtain ⟨hxn, hd⟩ := mem_overs.1 hx
  have hb := hd.1
  have hxr := hd.rch
  have ha := (T.dom b x hb).2 hd
  rw [oversL_len T hb, oversL_len T hxr]
  by_cases h : b = s
  · subst h
    have := ha.root
    refine ⟨fun _ => ?_, fun h => absurd this h, fun h => absurd this h⟩
    simp [nxv]
  · obtain ⟨p, hp⟩ := T.some hb
    have hnx := next_deep T hn h hp ha
    have hpb := (T.par h hp).2.2.1
    unfold nxv
    rw [if_neg h, hp]
    simp only [List.mem_append, List.mem_singleton]
    refine ⟨fun e => ?_, fun e h1 => ?_, fun e h1 => ?_⟩
    · have : ¬ p = x := fun k => hpb (k.trans e)
      simp [this]
    · have : ¬ p = x := fun k => h1 (hnx.2 k.symm).2
      simp [this]
    · rw [hnx.1 ⟨e, h1⟩, if_pos (.inr rfl)]
set_option maxHeartbeats 16000000 in
set_option maxRecDepth 100000 in
theorem refTree_main (w : World) (n s : Nat) (v : Value) (E : List (Nat × Nat)) (u : Nat → Option Nat) (T : Tree E s u) (hv : RE w v (E.map toE)) (hlen : E.length ≤ 1000000) (hn : n ≤ 100000) (hs : s < n) (hed : ∀ e ∈ E, e.1 < n ∧ e.2 < n) (hg : graphB n (E.map toE) = true) :
    Calls Tryd.prog 18 #[.int .i64 n, v, .int .i64 s] w fun e w' => Below w.heap.size w w' ∧ ∃ ob : Nat, e = .returned (.tuple #[.slice (some ⟨ob, 0, none⟩) n n, .int .i64 0]) ∧ w'.rowIs ob 3 n (upEnd s u) ∧ w.heap.size ≤ ob := by
  have HV := Lib.hid hv
  have HG := Lib.hid hg
  have HED := Lib.hid hed
  have HLEN := Lib.hid hlen
  have HT := Lib.hid T
  have hlt : ∀ i, Rch E s i → i < n := fun i h => rch_lt hs hed h
  have HLT := Lib.hid hlt
  clear hv hg hed hlen T hlt
  have hsd2 : decide (n ≤ s) = false := by simp; omega
  go_enter Tryd.func18, Tryd.ntmps18
  go_wp2_with fail
  refine (refCheck_any n v _ w HV.out).mono ?_
  rw [HG.out]
  rintro e w1 ⟨rfl, hb⟩
  have HB1 := Lib.hid hb
  clear hb
  simp only [edgeErr]
  go_wp2_with fail
  refine (overs_any w1 n s hn v E HLEN.out (HV.out.below HB1.out) HED.out hs).mono ?_
  rintro e w2 ⟨tb, rfl, hA⟩
  have HB2 : Hid (Below w.heap.size w w2) := by
    obtain ⟨F, h1, h2, h3⟩ := hA
    exact HB1.out.trans (h3.mono HB1.out.size)
  have HRW := Lib.hid hA.rows
  have hmk2 := run_make_row' 26 3 (.int .i64 0) 8 Tryd.underlying26 info_int rfl .i64 .i64 n (by omega) (by omega)
  clear hA HB1
  obtain ⟨ob, hob⟩ : ∃ ob, ob = w2.heap.size := ⟨_, rfl⟩
  have R0 : Hid ((w2.alloc (.cells (madeCells #[.int .i64 0] n) 3)).rowIs ob 3 n (fun i => if i < 0 then upEnd s u i else .int .i64 0)) := by
    rw [hob]; exact (World.rowIs_made _ _ _ _).congr (fun j _ => by simp)
  have B0 : Hid (Below w2.heap.size w2 (w2.alloc (.cells (madeCells #[.int .i64 0] n) 3))) := (Below.refl _ _).alloc (Nat.le_refl _) _
  have HOB := Lib.hid hob
  have hobl : w2.heap.size ≤ ob := by omega
  clear hob
  go_wp2
  rw [← HOB.out]
  clear hmk2
  go_loopw [35] (fun v35 wr => ∃ b : Nat, b ≤ n ∧ v35 = .int .i64 b ∧ Hid (wr.rowIs ob 3 n (fun i => if i < b then upEnd s u i else .int .i64 0)) ∧ Hid (Below w2.heap.size w2 wr)) (fun v35 _ => n - (intOf v35).toNat)
  case atStart => exact ⟨0, by omega, rfl, R0, B0⟩
  case round =>
    clear R0 B0
    obtain ⟨b, hb, rfl, HR, HB⟩ := hrel
    by_cases hbn : b < n
    · have d0 := HR.out.cell hbn
      have d1 := HR.out.frozen b
      have R1 : Hid ((wr.setCell ⟨ob, b, none⟩ (.int .i64 (-1))).rowIs ob 3 n (fun i => if i = b then .int .i64 (nxv s u b ((oversL E s n b).take 0)) else if i < b then upEnd s u i else .int .i64 0)) :=
        (HR.out.set b _).congr (fun j _ => by rw [List.take_zero, nxv_nil])
      have B1 : Hid (Below w2.heap.size w2 (wr.setCell ⟨ob, b, none⟩ (.int .i64 (-1)))) := HB.out.setCell hobl _
      obtain ⟨ab, cb, hrow, hel⟩ := HRW.out.row b hbn
      have d2 := (B1.out.cell (p := ⟨tb, b, none⟩) HRW.out.lt).trans hrow
      obtain ⟨X, hX⟩ : ∃ X, X = (oversL E s n b).length := ⟨_, rfl⟩
      rw [← hX] at d2 hrow
      have HX := Lib.hid hX
      have HEL := Lib.hid hel
      have HROW := Lib.hid hrow
      have hXn : X ≤ n := by
        have := List.length_filter_le (fun a => domB E s a b) (List.range n)
        rw [List.length_range] at this
        rw [hX]; exact this
      clear hX hel hrow HR HB
      go_wp2
      clear d0 d1 d2
      go_loopw [46] (fun v46 wr => ∃ k : Nat, k ≤ X ∧ v46 = .int .i64 k ∧ Hid (wr.rowIs ob 3 n (fun i => if i = b then .int .i64 (nxv s u b ((oversL E s n b).take k)) else if i < b then upEnd s u i else .int .i64 0)) ∧ Hid (Below w2.heap.size w2 wr)) (fun v46 _ => X - (intOf v46).toNat)
      case atStart => exact ⟨0, by omega, rfl, R1, B1⟩
      case round =>
        clear R1 B1
        obtain ⟨k, hk, rfl, HR, HB⟩ := hrel
        by_cases hkX : k < X
        · obtain ⟨x, hx⟩ : ∃ x, (oversL E s n b)[k]? = some x := ⟨_, List.getElem?_eq_getElem (by rw [← HX.out]; exact hkX)⟩
          obtain ⟨gb, rfl, hgb, hcx⟩ := HEL.out k x hx
          have d0 := (HB.out.cell (p := ⟨gb, k, none⟩) hgb).trans hcx
          have hxm := List.mem_of_getElem? hx
          have hxn := (mem_overs.1 hxm).1
          have HST := Lib.hid (nxv_step HT.out HLT.out hxm ((oversL E s n b).take k))
          have HTK : Hid ((oversL E s n b).take (k + 1) = (oversL E s n b).take k ++ [x]) := by
            show _ = _
            rw [List.take_add_one, hx]; rfl
          clear hx hgb hcx hxm
          by_cases hxb : x = b
          · subst hxb
            have R2 : Hid (wr.rowIs ob 3 n (fun i => if i = x then .int .i64 (nxv s u x ((oversL E s n x).take (k + 1))) else if i < x then upEnd s u i else .int .i64 0)) := by
              rw [HTK.out, HST.out.1 rfl]; exact HR.out
            have x1 : ((x : Int) != (x : Int)) = false := by simp
            clear HR
            go_wp2
            go_quiet (fail)
            go_wp2
            exact ⟨⟨k + 1, by omega, by go_num, R2, bdrewN HB.out _⟩, by simp [intOf]; omega⟩
          · have x1 : ((x : Int) != (b : Int)) = true := by simp; omega
            obtain ⟨ax, cx, hrx, -⟩ := HRW.out.row x hxn
            have d1 := (HB.out.cell (p := ⟨tb, x, none⟩) HRW.out.lt).trans hrx
            have d2 := (HB.out.cell (p := ⟨tb, b, none⟩) HRW.out.lt).trans HROW.out
            obtain ⟨Y, hY⟩ : ∃ Y, Y = (oversL E s n x).length := ⟨_, rfl⟩
            rw [← hY] at d1 hrx
            have HY := Lib.hid hY
            have hYn : Y ≤ n := by
              have := List.length_filter_le (fun a => domB E s a x) (List.range n)
              rw [List.length_range] at this
              rw [hY]; exact this
            clear hY hrx
            have HST2 := Lib.hid (And.intro (HST.out.2.1 hxb) (HST.out.2.2 hxb))
            rw [← HX.out, ← HY.out] at HST2
            clear HST hxb
            by_cases hYX : Y + 1 = X
            · have x2 : ((Y : Int) == (X : Int) - 1) = true := by simp; omega
              have w1 : IntKind.i64.wrap ((X : Int) - 1) = (X : Int) - 1 := IntWalk.i64_in _ (by omega)
              go_wp2
              go_quiet (fail)
              generalize hwd : World.drewN wr _ = wd
              have RD : Hid (wd.rowIs ob 3 n (fun i => if i = b then .int .i64 (nxv s u b ((oversL E s n b).take k)) else if i < b then upEnd s u i else .int .i64 0)) := by rw [← hwd]; exact HR.out
              have BD : Hid (Below w2.heap.size w2 wd) := by rw [← hwd]; exact bdrewN HB.out _
              have d3 := RD.out.cell hbn
              have d4 := RD.out.frozen b
              have R2 : Hid ((wd.setCell ⟨ob, b, none⟩ (.int .i64 (x : Int))).rowIs ob 3 n (fun i => if i = b then .int .i64 (nxv s u b ((oversL E s n b).take (k + 1))) else if i < b then upEnd s u i else .int .i64 0)) :=
                (RD.out.set b _).congr (fun j _ => by
                  by_cases e : j = b
                  · rw [if_pos e, if_pos e, HTK.out, HST2.out.2 hYX]
                  · rw [if_neg e, if_neg e, if_neg e])
              have B2 : Hid (Below w2.heap.size w2 (wd.setCell ⟨ob, b, none⟩ (.int .i64 (x : Int)))) := BD.out.setCell hobl _
              clear hwd RD BD HR
              go_wp2
              exact ⟨⟨k + 1, by omega, by go_num, R2, B2⟩, by simp [intOf]; omega⟩
            · have x2 : ((Y : Int) == (X : Int) - 1) = false := by simp; omega
              have w1 : IntKind.i64.wrap ((X : Int) - 1) = (X : Int) - 1 := IntWalk.i64_in _ (by omega)
              have R2 : Hid (wr.rowIs ob 3 n (fun i => if i = b then .int .i64 (nxv s u b ((oversL E s n b).take (k + 1))) else if i < b then upEnd s u i else .int .i64 0)) := by
                rw [HTK.out, HST2.out.1 hYX]; exact HR.out
              clear HR
              go_wp2
              go_quiet (fail)
              go_wp2
              exact ⟨⟨k + 1, by omega, by go_num, R2, bdrewN HB.out _⟩, by simp [intOf]; omega⟩
        · obtain rfl : X = k := by omega
          have R2 : Hid (wr.rowIs ob 3 n (fun i => if i < b + 1 then upEnd s u i else .int .i64 0)) := by
            refine HR.out.congr (fun j _ => ?_)
            rw [List.take_of_length_le (by rw [← HX.out]; exact Nat.le_refl _), nxv_full HT.out HLT.out]
            by_cases e : j = b
            · subst e; rw [if_pos rfl, if_pos (by omega), upEnd_eq]
            · rw [if_neg e]
              by_cases e2 : j < b
              · rw [if_pos e2, if_pos (by omega)]
              · rw [if_neg e2, if_neg (by omega)]
          clear HR
          go_wp2
          exact ⟨⟨b + 1, by omega, by go_num, R2, HB⟩, by simp [intOf]; omega⟩
    · obtain rfl : n = b := by omega
      have R2 : Hid (wr.rowIs ob 3 n (upEnd s u)) := HR.out.congr (fun j hj => by rw [if_pos hj])
      have HBE : Hid (Below w.heap.size w wr) := HB2.out.trans (HB.out.mono HB2.out.size)
      clear HR HB
      go_wp2
      go_ret2
      exact ⟨HBE.out, ob, rfl, R2.out, Nat.le_trans HB2.out.size hobl⟩
end Go.Proofs.YtnmfbaahabcocaaDoor
end
