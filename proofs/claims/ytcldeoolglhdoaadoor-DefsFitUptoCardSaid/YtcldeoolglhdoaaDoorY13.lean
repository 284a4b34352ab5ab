/- Joined by my own program, in build order: Cpt. -/
import Derived.Test.YtcldeoolglhdoaaDoorChecked
import Derived.ProofKit
import Derived.Lib.Hide
import Derived.WalkLawsBesides
import Derived.Laws.StructEq
import Derived.Deep.QuietTactic
import Derived.BigQuiet
import Derived.BigRegion
import Derived.WalkKit
import Derived.Lib.SliceRun
import Derived.Lib.SlicesCompact
set_option linter.unusedVariables false
set_option linter.unusedSimpArgs false
section
set_option linter.unusedVariables false
set_option linter.unusedSimpArgs false
namespace Go.Proofs.YtcldeoolglhdoaaDoor
open Go.RowKit Go.Lib
theorem inEdge : Tryd.prog.stoodInHeld 37 = false := by kernel_rfl
theorem gdEdge : Tryd.prog.eqGuardType Tryd.prog.depth 37 = false := by kernel_rfl
structure RowW (w0 wr : World) (blk off : Nat) (ty : TypeId) (d : Array (Int × Int)) : Prop where
  os : wr.os = w0.os
  tape : wr.tape = w0.tape
  output : wr.output = w0.output
  size : wr.heap.size = w0.heap.size
  other : ∀ k, k ≠ blk → wr.heap[k]? = w0.heap[k]?
  row : ∃ cur cur0, w0.heap[blk]? = some (.cells cur0 ty (0, 0)) ∧ wr.heap[blk]? = some (.cells cur ty (0, 0)) ∧ cur.size = cur0.size ∧ off + d.size * 2 ≤ cur.size ∧ ∀ i, i < d.size → cur[off + i * 2]? = some (.int .i64 (d[i]!).1) ∧ cur[off + i * 2 + 1]? = some (.int .i64 (d[i]!).2)
section
variable {w0 wr : World} {blk off : Nat} {ty : TypeId} {d : Array (Int × Int)}
theorem RowW.at (h : RowW w0 wr blk off ty d) {i : Nat} (hi : i < d.size) : wr.cell? ⟨blk, off + i * 2, none⟩ = some (.int .i64 (d[i]!).1) ∧ wr.cell? ⟨blk, off + i * 2 + 1, none⟩ = some (.int .i64 (d[i]!).2) ∧ wr.frozen? ⟨blk, off + i * 2, none⟩ = false ∧ wr.frozen? ⟨blk, off + i * 2 + 1, none⟩ = false := by
  obtain ⟨cur, cur0, h1, h2, h3, h4, h5⟩ := h.row
  obtain ⟨a, b⟩ := h5 i hi
  refine ⟨?_, ?_, ?_, ?_⟩
  · simp only [World.cell?, h2]; exact a
  · simp only [World.cell?, h2]; exact b
  · simp [World.frozen?, h2]
  · simp [World.frozen?, h2]
theorem RowW.drew (h : RowW w0 wr blk off ty d) : RowW w0 wr.drew blk off ty d := ⟨h.os, h.tape, h.output, h.size, h.other, h.row⟩
theorem RowW.drewN (h : RowW w0 wr blk off ty d) (q : Nat) : RowW w0 (wr.drewN q) blk off ty d := ⟨h.os, h.tape, h.output, h.size, h.other, h.row⟩
theorem setCell_heap (w : World) (b o : Nat) (v : Value) (k : Nat) : (w.setCell ⟨b, o, none⟩ v).heap[k]? = if b = k then (match w.heap[k]? with | some (.cells c e f) => some (.cells (c.setIfInBounds o v) e f) | o => o) else w.heap[k]? := by
  show (w.heap.modify b _)[k]? = _
  rw [Array.getElem?_modify]
  split
  · cases w.heap[k]? with
    | none => rfl
    | some o => cases o <;> rfl
  · rfl
theorem RowW.put (h : RowW w0 wr blk off ty d) {i : Nat} (hi : i < d.size) {x y : Int} : RowW w0 ((wr.setCell ⟨blk, off + i * 2, none⟩ (.int .i64 x)).setCell ⟨blk, off + i * 2 + 1, none⟩ (.int .i64 y)) blk off ty (d.setIfInBounds i (x, y)) := by
  obtain ⟨cur, cur0, h1, h2, h3, h4, h5⟩ := h.row
  refine ⟨h.os, h.tape, h.output, ?_, fun k hk => ?_, ⟨(cur.setIfInBounds (off + i * 2) (.int .i64 x)).setIfInBounds (off + i * 2 + 1) (.int .i64 y), cur0, h1, ?_, by simpa using h3, by simpa using h4, fun j hj => ?_⟩⟩
  · simp [World.setCell, h.size]
  · rw [setCell_heap, setCell_heap, if_neg (fun e => hk e.symm), if_neg (fun e => hk e.symm)]; exact h.other k hk
  · rw [setCell_heap, setCell_heap, if_pos rfl, if_pos rfl, h2]
  · have hj : j < d.size := by simpa using hj
    obtain ⟨a, b⟩ := h5 j hj
    by_cases e : j = i
    · subst e
      have hg : (d.setIfInBounds j (x, y))[j]! = (x, y) := by rw [getElem!_pos (d.setIfInBounds j (x, y)) j (by simpa using hj)]; simp
      rw [hg]
      constructor
      · rw [Array.getElem?_setIfInBounds_ne (by omega), Array.getElem?_setIfInBounds_self_of_lt (by omega)]
      · rw [Array.getElem?_setIfInBounds_self_of_lt (by simp; omega)]
    · have hg : (d.setIfInBounds i (x, y))[j]! = d[j]! := by
        rw [getElem!_pos (d.setIfInBounds i (x, y)) j (by simpa using hj), getElem!_pos d j hj, Array.getElem_setIfInBounds_ne]
        exact fun q => e q.symm
      rw [hg]
      constructor
      · rw [Array.getElem?_setIfInBounds_ne (by omega), Array.getElem?_setIfInBounds_ne (by omega)]; exact a
      · rw [Array.getElem?_setIfInBounds_ne (by omega), Array.getElem?_setIfInBounds_ne (by omega)]; exact b
theorem RowW.zero : ∀ (m k : Nat) {wr : World} {d : Array (Int × Int)}, RowW w0 wr blk off ty d → k + m ≤ d.size →
    ∃ d', RowW w0 (wr.setCells blk (off + k * 2) (List.replicate (m * 2) (.int .i64 0))) blk off ty d' ∧ d'.size = d.size ∧ ∀ j, d'[j]! = if k ≤ j ∧ j < k + m then (0, 0) else d[j]!
  | 0, k, wr, d, h, _ => ⟨d, h, rfl, fun j => by rw [if_neg (by omega)]⟩
  | m + 1, k, wr, d, h, hk => by
    obtain ⟨d', h1, h2, h3⟩ := RowW.zero m (k + 1) (h.put (i := k) (x := 0) (y := 0) (by omega)) (by simp; omega)
    refine ⟨d', ?_, by simpa using h2, fun j => ?_⟩
    · rw [show (m + 1) * 2 = m * 2 + 1 + 1 by omega, List.replicate_succ, List.replicate_succ]
      show RowW w0 (((wr.setCell ⟨blk, off + k * 2, none⟩ (.int .i64 0)).setCell ⟨blk, off + k * 2 + 1, none⟩ (.int .i64 0)).setCells blk (off + k * 2 + 1 + 1) _) _ _ _ _
      rw [show off + k * 2 + 1 + 1 = off + (k + 1) * 2 by omega]
      exact h1
    · rw [h3]
      by_cases e : j = k
      · subst e
        rw [if_neg (by omega), if_pos (by omega), getElem!_pos (d.setIfInBounds j (0, 0)) j (by simp; omega)]; simp
      · have hg : (d.setIfInBounds k (0, 0))[j]! = d[j]! := by
          by_cases hj : j < d.size
          · rw [getElem!_pos (d.setIfInBounds k (0, 0)) j (by simpa using hj), getElem!_pos d j hj, Array.getElem_setIfInBounds_ne]
            exact fun q => e q.symm
          · rw [getElem!_neg (d.setIfInBounds k (0, 0)) j (by simpa using hj), getElem!_neg d j hj]
        rw [hg]
        by_cases c : k ≤ j ∧ j < k + (m + 1)
        · rw [if_pos (by omega), if_pos c]
        · rw [if_neg (by omega), if_neg c]
theorem zeros2 (n : Nat) : (Builtin.zeroCells #[.int .i64 0, .int .i64 0] n).toList = List.replicate (n * 2) (.int .i64 0) := by
  refine List.ext_getElem? fun i => ?_
  unfold Builtin.zeroCells
  by_cases h : i < n * 2
  · have : i % 2 = 0 ∨ i % 2 = 1 := by omega
    rcases this with e | e <;> simp [h, e]
  · rw [List.getElem?_eq_none (by simpa using h), List.getElem?_eq_none (by simpa using h)]
theorem zeroEdge (w : World) : (zeroValue 37).run Tryd.prog w = .ok (.agg #[.int .i64 0, .int .i64 0]) w := Tryd.zeroValue37 w
theorem clear_edges (wr : World) (h : RowW w0 wr blk off ty d) (k n cap : Nat) (hn : k + n = d.size) (hn0 : 0 < n) (ty' : TypeId) :
    (Builtin.clear_ #[26] ty' #[.slice (some ⟨blk, off + k * 2, none⟩) n cap]).run Tryd.prog wr = .ok (.tuple #[]) (wr.setCells blk (off + k * 2) (List.replicate (n * 2) (.int .i64 0))) := by
  have hc : ∀ j, j < n * 2 → (wr.cell? ⟨blk, off + k * 2 + j, none⟩).isSome = true ∧ wr.frozen? ⟨blk, off + k * 2 + j, none⟩ = false := fun j hj => by
    obtain ⟨a, b, c, e⟩ := h.at (show k + j / 2 < d.size by omega)
    have : j % 2 = 0 ∨ j % 2 = 1 := by omega
    rcases this with q | q
    · rw [show off + k * 2 + j = off + (k + j / 2) * 2 by omega]; exact ⟨by rw [a]; rfl, c⟩
    · rw [show off + k * 2 + j = off + (k + j / 2) * 2 + 1 by omega]; exact ⟨by rw [b]; rfl, e⟩
  have hst := run_storeCells_cells (P := Tryd.prog) blk (off + k * 2) (List.replicate (n * 2) (.int .i64 0)) 0 wr (fun j hj => by rw [Nat.add_zero]; exact (hc j (by simpa using hj)).1) (fun j hj => by rw [Nat.add_zero]; exact (hc j (by simpa using hj)).2) (by intro v hv'; rw [List.eq_of_mem_replicate hv']; rfl)
  simp only [Nat.add_zero] at hst
  obtain ⟨m, rfl⟩ : ∃ m, n = m + 1 := ⟨n - 1, by omega⟩
  simp [Builtin.clear_, run_underlying Tryd.underlying26, zeroEdge, show (Value.agg #[Value.int .i64 0, Value.int .i64 0]).cells = #[Value.int .i64 0, Value.int .i64 0] from rfl, zeros2, hst, Result.andThen]
end
open Lib in
set_option maxHeartbeats 4000000 in
set_option maxRecDepth 1000000 in
theorem compactE_any (blk off cap : Nat) (ty : TypeId) (d : Array (Int × Int)) (w : World) (hR : RowW w w blk off ty d) (hsz : d.size ≤ 1000000000000) (hcap : d.size ≤ cap) :
    Calls Tryd.prog 45 #[.slice (some ⟨blk, off, none⟩) d.size cap] w fun e w' => e = .returned (.slice (some ⟨blk, off, none⟩) (compactUpTo d d.size).length cap) ∧
      ∃ dk, RowW w w' blk off ty dk ∧ dk.size = d.size ∧ (∀ j, j < (compactUpTo d d.size).length → (compactUpTo d d.size)[j]? = some dk[j]!) ∧ ∀ j, j < dk.size → dk[j]! ∈ d.toList ∨ dk[j]! = (0, 0) := by
  have HR := Lib.hid hR
  have mem : ∀ j, j < d.size → d[j]! ∈ d.toList := fun j hj => by rw [getElem!_pos d j hj]; simp
  have HS : Hid ((∀ j, j < d.size → keeps d j = true) → (compactUpTo d d.size).length = d.size ∧ ∀ j, j < (compactUpTo d d.size).length → (compactUpTo d d.size)[j]? = some d[j]!) := by
    intro hall
    rw [compactUpTo_all d _ hall]
    refine ⟨by simp, fun j hj => ?_⟩
    simp at hj
    simp [hj]
  have HM := Lib.hid mem
  clear hR mem
  by_cases h2 : d.size < 2
  · go_enter Tryd.func45, Tryd.ntmps45
    go_wp2
    go_ret
    obtain ⟨e1, e2⟩ := HS.out (fun j hj => keeps_lt_one d j (by omega))
    exact ⟨by rw [e1]; rfl, d, HR.out, rfl, e2, fun j hj => .inl (HM.out j hj)⟩
  · go_enter Tryd.func45, Tryd.ntmps45
    go_wp2
    go_loopw [3] (fun s3 wr => ∃ k : Nat, 1 ≤ k ∧ k ≤ d.size ∧ s3 = .int .i64 k ∧ Hid (RowW w wr blk off ty d) ∧ Hid (∀ j, j < k → keeps d j = true)) (fun s3 _ => d.size - (intOf s3).toNat)
    case atStart => exact ⟨1, Nat.le_refl _, by omega, rfl, HR.out, keeps_lt_one d⟩
    case round =>
      obtain ⟨k, hk1, hk, rfl, HW, A⟩ := hrel
      by_cases hlt : k < d.size
      · obtain ⟨x0, x1, fx0, fx1⟩ := HW.out.at hlt
        obtain ⟨y0, y1, fy0, fy1⟩ := HW.out.at (show k - 1 < d.size by omega)
        generalize hx : d[k]! = x at x0 x1
        generalize hy : d[k - 1]! = y at y0 y1
        obtain ⟨xa, xb⟩ := x
        obtain ⟨ya, yb⟩ := y
        have B : Hid (d[k]! = (xa, xb) ∧ d[k - 1]! = (ya, yb)) := ⟨hx, hy⟩
        simp only at x0 x1 y0 y1
        clear hx hy
        have hkn : (k : Int) < (d.size : Int) := by omega
        have hin := inEdge
        have hgd := gdEdge
        by_cases ha : xa = ya
        · subst ha
          by_cases hb : xb = yb
          · subst hb
            go_wp2_with fail
            go_quiet (fail)
            clear x0 x1 y0 y1 fx0 fx1 fy0 fy1
            go_wp2
            generalize hV : (wr.drewN _) = V
            have HV : Hid (RowW w V blk off ty d) := by
              show RowW _ _ _ _ _ _
              rw [← hV]; exact HW.out.drewN _
            clear hV
            go_loopw [3, 5] (fun s3 s5 wr2 => ∃ (kk k2 : Nat) (dk : Array (Int × Int)), s3 = .int .i64 kk ∧ s5 = .int .i64 k2 ∧ 1 ≤ k2 ∧ k + k2 ≤ d.size ∧ Hid (RowW w wr2 blk off ty dk) ∧ Hid (CompInv d (k + k2) kk dk)) (fun _ s5 _ => d.size - k - (intOf s5).toNat)
            case atStart => exact ⟨k, 1, d, rfl, rfl, Nat.le_refl _, by omega, HV.out, CompInv.start A.out (keeps_neg (by omega) (by rw [B.out.1, B.out.2]))⟩
            case round =>
              obtain ⟨kk, k2, dk, rfl, rfl, h1, hle, W2, I2⟩ := hrel
              have hkk := I2.out.lt
              have hds := I2.out.size
              by_cases hlt2 : k + k2 < d.size
              · obtain ⟨u0, u1, fu0, fu1⟩ := W2.out.at (show k + k2 < dk.size by omega)
                obtain ⟨v0, v1, fv0, fv1⟩ := W2.out.at (show k + k2 - 1 < dk.size by omega)
                obtain ⟨k0, k1, fk0, fk1⟩ := W2.out.at (show kk < dk.size by omega)
                rw [I2.out.high (k + k2) (by omega)] at u0 u1
                rw [I2.out.high (k + k2 - 1) (by omega)] at v0 v1
                generalize hu : d[k + k2]! = u at u0 u1
                generalize hv : d[k + k2 - 1]! = v at v0 v1
                generalize dk[kk]! = old at k0 k1
                obtain ⟨ua, ub⟩ := u
                obtain ⟨va, vb⟩ := v
                have C : Hid (d[k + k2]! = (ua, ub) ∧ d[k + k2 - 1]! = (va, vb)) := ⟨hu, hv⟩
                simp only at u0 u1 v0 v1
                clear hu hv
                rw [show off + (k + k2) * 2 = off + k * 2 + k2 * 2 by omega] at u0 u1
                rw [show off + (k + k2 - 1) * 2 = off + k * 2 + (k2 - 1) * 2 by omega] at v0 v1
                clear fu0 fu1 fv0 fv1
                have hk2n : (k2 : Int) < ((d.size - k : Nat) : Int) := by omega
                by_cases hua : ua = va
                · subst hua
                  by_cases hub : ub = vb
                  · subst hub
                    go_wp2_with fail
                    go_quiet (fail)
                    go_wp2
                    go_roundw
                    case measure => simp [intOf]; omega
                    case rel => exact ⟨kk, k2 + 1, dk, rfl, by go_num, by omega, by omega, W2.out.drewN _, by have := I2.out.skip (keeps_neg (by omega) (by rw [C.out.1, C.out.2])); rwa [show k + (k2 + 1) = k + k2 + 1 by omega]⟩
                  · go_wp2_with fail
                    go_quiet (fail)
                    go_wp2
                    have hks : keeps d (k + k2) = true := keeps_pos (by rw [C.out.1, C.out.2]; intro h; simp only [Prod.mk.injEq] at h; omega)
                    have hci := I2.out.keep hlt2 hks
                    rw [C.out.1] at hci
                    refine ⟨⟨kk + 1, k2 + 1, dk.setIfInBounds kk (ua, ub), by go_num, by go_num, by omega, by omega, (W2.out.drewN _).put (by omega), by rwa [show k + (k2 + 1) = k + k2 + 1 by omega]⟩, by simp [intOf]; omega⟩
                · go_wp2_with fail
                  go_quiet (fail)
                  go_wp2
                  have hks : keeps d (k + k2) = true := keeps_pos (by rw [C.out.1, C.out.2]; intro h; simp only [Prod.mk.injEq] at h; omega)
                  have hci := I2.out.keep hlt2 hks
                  rw [C.out.1] at hci
                  refine ⟨⟨kk + 1, k2 + 1, dk.setIfInBounds kk (ua, ub), by go_num, by go_num, by omega, by omega, (W2.out.drewN _).put (by omega), by rwa [show k + (k2 + 1) = k + k2 + 1 by omega]⟩, by simp [intOf]; omega⟩
              · have hend : k + k2 = d.size := by omega
                have hcl : ∀ ty', (Builtin.clear_ #[26] ty' #[.slice (some ⟨blk, off + kk * 2, none⟩) (d.size - kk) (cap - kk)]).run Tryd.prog wr = .ok (.tuple #[]) (wr.setCells blk (off + kk * 2) (List.replicate ((d.size - kk) * 2) (.int .i64 0))) :=
                  fun ty' => clear_edges wr W2.out kk (d.size - kk) (cap - kk) (by omega) (by omega) ty'
                obtain ⟨dz, hz1, hz2, hz3⟩ := W2.out.zero (d.size - kk) kk (by omega)
                have HZ : Hid (RowW w (wr.setCells blk (off + kk * 2) (List.replicate ((d.size - kk) * 2) (.int .i64 0))) blk off ty dz ∧ dz.size = dk.size ∧ ∀ j, dz[j]! = if kk ≤ j ∧ j < kk + (d.size - kk) then (0, 0) else dk[j]!) := ⟨hz1, hz2, hz3⟩
                clear hz1 hz2 hz3
                go_wp2
                go_ret
                have hI := I2.out
                rw [hend] at hI
                obtain ⟨hz1, hz2, hz3⟩ := HZ.out
                refine ⟨by rw [hI.len]; rfl, dz, hz1, by rw [hz2, hI.size], fun j hj => ?_, fun j hj => ?_⟩
                · rw [hI.len] at hj
                  rw [hI.low j hj, hz3, if_neg (by omega)]
                · rw [hz3]
                  by_cases c : kk ≤ j
                  · exact .inr (by rw [if_pos (by omega)])
                  · rw [if_neg (by omega)]
                    refine .inl ?_
                    have h1 := hI.low j (by omega)
                    have h2 : dk[j]! ∈ compactUpTo d d.size := List.mem_of_getElem? h1
                    unfold compactUpTo at h2
                    obtain ⟨t, ht, e⟩ := List.mem_map.1 h2
                    rw [← e]
                    exact HM.out t (List.mem_range.1 (List.mem_filter.1 ht).1)
          · go_wp2_with fail
            go_quiet (fail)
            go_wp2
            go_roundw
            case measure => simp [intOf]; omega
            case rel =>
              refine ⟨k + 1, by omega, by omega, by go_num, HW.out.drewN _, ?_⟩
              show ∀ j, j < k + 1 → keeps d j = true
              intro j hj
              by_cases e : j = k
              · subst e
                exact keeps_pos (by rw [B.out.1, B.out.2]; intro h; simp only [Prod.mk.injEq] at h; omega)
              · exact A.out j (by omega)
        · go_wp2_with fail
          go_quiet (fail)
          go_wp2
          go_roundw
          case measure => simp [intOf]; omega
          case rel =>
            refine ⟨k + 1, by omega, by omega, by go_num, HW.out.drewN _, ?_⟩
            show ∀ j, j < k + 1 → keeps d j = true
            intro j hj
            by_cases e : j = k
            · subst e
              exact keeps_pos (by rw [B.out.1, B.out.2]; intro h; simp only [Prod.mk.injEq] at h; omega)
            · exact A.out j (by omega)
      · have : k = d.size := by omega
        subst this
        go_wp2
        go_ret
        obtain ⟨e1, e2⟩ := HS.out A.out
        exact ⟨by rw [e1]; rfl, d, HW.out, rfl, e2, fun j hj => .inl (HM.out j hj)⟩
theorem compactE_nil (w : World) : Calls Tryd.prog 45 #[.slice none 0 0] w fun e w' => e = .returned (.slice none 0 0) ∧ w' = w := by
  go_enter Tryd.func45, Tryd.ntmps45
  go_wp2
  go_ret
  exact ⟨rfl, rfl⟩
end Go.Proofs.YtcldeoolglhdoaaDoor
end
