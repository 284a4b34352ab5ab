/- The sets of package bits: a new one, another one's words put in, what stands in both, whether all stand in another one. -/
import Derived.Test.YtgceaicokacgjaaDoorSets3
import Derived.Laws.CopyOwn
import Derived.Laws.World
namespace Go.Proofs.YtgceaicokacgjaaDoor
open Go.RowKit

/-! ### A new set -/
def clampN (n : Int) : Nat := (max 0 (min n 1000000)).toNat
theorem clampN_le (n : Int) : clampN n ≤ 1000000 := by unfold clampN; omega
theorem info_u64 : (Tryd.prog.info? 45).map (fun i => (i.zero, i.size, i.bytes)) = some (some (.int .u64 0), 1, 8) := by kernel_rfl
theorem made_words (n : Nat) : madeCells (Value.int .u64 0).cells (n * 1) = wordsArr (fun _ => false) n := by
  apply Array.ext_getElem?
  intro q
  by_cases hq : q < n
  · rw [wordsArr_get _ _ _ hq, wd_zero]
    simp [madeCells, Value.cells, hq, Nat.mod_one]
  · rw [Array.getElem?_eq_none (by rw [size_madeCells]; omega), Array.getElem?_eq_none (by rw [wordsArr_size]; omega)]
theorem make_run (c : Nat) (hc : c ≤ 20000) (w : World) : (Instr.makeSlice 48 (.int .i64 (c : Int)) (.int .i64 (c : Int))).run Tryd.prog w = .ok (.slice (some ⟨w.heap.size, 0, none⟩) c c) (w.alloc (.cells (wordsArr (fun _ => false) c) 45)) := by
  obtain ⟨i0, hi, hz0, hz1, hz2⟩ := info_parts info_u64
  rw [run_make w _ _ i0 _ Tryd.underlying48 hi hz0 .i64 .i64 _ _ (by omega) (by omega) (by rw [hz2]; omega) (by omega), hz1]
  simp only [Int.toNat_natCast]
  rw [made_words]
def NewSet (w : World) (n : Nat) (f : Nat → Bool) (e : Ending) (w' : World) : Prop :=
  ∃ p b, e = .returned (.pointer (some ⟨p, 0, none⟩)) ∧ SetAt w' p b n f ∧ w.heap.size ≤ p ∧ w.heap.size ≤ b ∧ Below w.heap.size w w'
theorem new_set (w : World) (n : Nat) (hn : n ≤ 1000000) : NewSet w n (fun _ => false) (.returned (.pointer (some ⟨w.heap.size + 1, 0, none⟩)))
    ((w.alloc (.cells (wordsArr (fun _ => false) (nw n)) 45)).alloc (.cells #[.int .i64 n, .slice (some ⟨w.heap.size, 0, none⟩) (nw n) (nw n)] 50)) := by
  refine ⟨w.heap.size + 1, w.heap.size, rfl, ⟨?_, ?_, hn, fun i h => by cases h⟩, by omega, by omega, ?_⟩
  · have := heap_alloc_new (w.alloc (.cells (wordsArr (fun _ => false) (nw n)) 45)) (.cells #[.int .i64 n, .slice (some ⟨w.heap.size, 0, none⟩) (nw n) (nw n)] 50)
    rwa [World.size_alloc] at this
  · rw [Below.heap_alloc _ _ _ (by simp), heap_alloc_new]
  · exact ((Below.refl _ _).alloc (Nat.le_refl _) _).alloc (by simp) _

theorem new_any (n : Int) (hwf : (Lit.int .i64 n).wf = true) (w : World) : Calls Tryd.prog 16 #[.int .i64 n] w (NewSet w (clampN n) (fun _ => false)) := by
  have hmk := make_run (nw (clampN n)) (by have := nw_le (clampN_le n); omega) w
  have HN := Lib.hid (new_set w (clampN n) (clampN_le n))
  have HWF := Lib.hid hwf
  clear hwf
  by_cases h0 : n ≤ 0
  · have e : clampN n = 0 := by unfold clampN; omega
    rw [e] at hmk HN ⊢
    have h2 : n ≤ 1000000 := by omega
    have e2 : nw 0 = 0 := rfl
    rw [e2] at hmk HN
    simp only [Int.ofNat_zero] at hmk HN
    by_cases h3 : n = 0
    · subst h3
      go_enter Tryd.func16, Tryd.ntmps16
      go_wp2
      go_ret
      exact HN.out
    · have h4 : n < 0 := by omega
      clear h3
      go_enter Tryd.func16, Tryd.ntmps16
      go_wp2
      go_ret
      exact HN.out
  · by_cases h1 : n ≤ 1000000
    · obtain ⟨m, rfl⟩ := Int.eq_ofNat_of_zero_le (by omega : 0 ≤ n)
      have e : clampN m = m := by unfold clampN; omega
      rw [e] at hmk HN ⊢
      have h2 : ((nw m : Nat) : Int) = ((m : Int) + 63) / 64 := by unfold nw; omega
      rw [h2] at hmk
      have h3 : 0 < m := by omega
      have H2 := Lib.hid h2
      clear h2
      by_cases h4 : m = 1000000
      · subst h4
        have e2 : nw 1000000 = 15625 := rfl
        rw [e2] at hmk HN
        have e3 : (((1000000 : Nat) : Int) + 63) / 64 = 15625 := rfl
        rw [e3] at hmk
        go_enter Tryd.func16, Tryd.ntmps16
        go_wp2
        go_ret
        exact HN.out
      · have h5 : (m : Int) < 1000000 := by omega
        clear h4 h1
        go_enter Tryd.func16, Tryd.ntmps16
        go_wp2
        go_ret
        exact HN.out
    · have e : clampN n = 1000000 := by unfold clampN; omega
      rw [e] at hmk HN ⊢
      have e2 : nw 1000000 = 15625 := rfl
      rw [e2] at hmk HN
      have e4 : ((15625 : Nat) : Int) = 15625 := rfl
      rw [e4] at hmk
      have h3 : 1000000 < n := by omega
      go_enter Tryd.func16, Tryd.ntmps16
      go_wp2
      go_ret
      exact HN.out

theorem wf_nat (n : Nat) (h : n ≤ 1000000) : (Lit.int .i64 (n : Int)).wf = true := by
  simp [Lit.wf, IntKind.min, IntKind.max, IntKind.signed, IntKind.bits]; omega
def wordsList (f : Nat → Bool) (n : Nat) : List Value := (wordsArr f n).toList
theorem wordsList_len (f : Nat → Bool) (n : Nat) : (wordsList f n).length = n := by simp [wordsList, wordsArr_size]
theorem splice_words (f g : Nat → Bool) (n : Nat) : splice (wordsList g n) 0 (wordsList f n) = wordsList f n := by
  unfold splice
  rw [List.drop_of_length_le (by rw [wordsList_len, wordsList_len]; omega)]
  simp
theorem wordsList_get (f : Nat → Bool) (n j : Nat) (v : Value) (h : (wordsList f n)[j]? = some v) : j < n ∧ v = .int .u64 (wd f j) := by
  have hj : j < n := by
    rcases Nat.lt_or_ge j n with h1 | h1
    · exact h1
    · rw [List.getElem?_eq_none (by rw [wordsList_len]; exact h1)] at h; cases h
  refine ⟨hj, ?_⟩
  have := wordsArr_get f n j hj
  unfold wordsList at h
  rw [Array.getElem?_toList, this] at h
  exact (Option.some.inj h).symm
theorem add_at (b j : Nat) : (Addr.mk b 0 none).add j = ⟨b, j, none⟩ := by simp [Addr.add]; omega
theorem wordsList_one (f : Nat → Bool) (n : Nat) : ∀ v ∈ wordsList f n, v.oneCell' = true := fun v hv => by
  obtain ⟨j, hj⟩ := List.mem_iff_getElem?.1 hv
  obtain ⟨_, rfl⟩ := wordsList_get f _ j v hj
  rfl
theorem clone_any (p b n : Nat) (f : Nat → Bool) (w : World) (hs : SetAt w p b n f) :
    Calls Tryd.prog 12 #[.pointer (some ⟨p, 0, none⟩)] w (NewSet w n f) := by
  have c0 := hs.c0
  have c1 := hs.c1
  have HS := Lib.hid hs
  have hsm := hs.small
  have hwf := wf_nat n hsm
  have HWF := Lib.hid hwf
  clear hs hwf
  go_enter Tryd.func12, Tryd.ntmps12
  go_wp2_with fail
  refine (new_any _ HWF.out _).mono ?_
  rintro e w1 ⟨p', b', rfl, hs', hp', hb', hbl⟩
  have hcl : clampN n = n := by unfold clampN; omega
  rw [hcl] at hs'
  have HS' := Lib.hid hs'
  have HB := Lib.hid hbl
  have k0 := hs'.c1
  have k1 : w1.cell? ⟨p, 1, none⟩ = some (.slice (some ⟨b, 0, none⟩) (nw n) (nw n)) := (hbl.cell (p := ⟨p, 1, none⟩) HS.out.lt.1).trans c1
  clear hs' hbl hcl c0 c1
  have hcell : ∀ j v, (wordsList f (nw n))[j]? = some v → w1.drew.cell? ((Addr.mk b 0 none).add j) = some v := fun j v hj => by
    obtain ⟨h1, rfl⟩ := wordsList_get f _ j v hj
    rw [add_at]
    exact (HB.out.cell (p := ⟨b, j, none⟩) HS.out.lt.2).trans (HS.out.cell h1)
  have HC := Lib.hid hcell
  have hrow : w1.drew.heap[b']? = some (.cells (wordsList (fun _ => false) (nw n)).toArray 45 (0, 0)) := by
    unfold wordsList; rw [Array.toArray_toList]; exact HS'.out.row
  have HR := Lib.hid hrow
  clear hcell hrow
  go_wp2
  go_still_tail 8, (by kernel_rfl)
  refine wpList_copy_own rfl _ _ 48 48 rfl 45 Tryd.underlying48 (by kernel_rfl) b' 0 (nw n) (nw n) ⟨b, 0, none⟩ (nw n) (nw n) rfl rfl _ 45 HR.out (wordsList f (nw n)) (by rw [wordsList_len]; simp) HC.out (by simp [wordsList_len]) (wordsList_one f _) ?_
  generalize hw2 : World.setRow _ b' _ = w2
  have HS2 : Hid (SetAt w2 p' b' n f) := by
    refine ⟨?_, ?_, hsm, HS.out.low⟩
    · rw [← hw2, setRow_other _ _ _ _ HS'.out.ne]; exact HS'.out.obj
    · rw [← hw2]
      refine (setRow_heap _ _ _ _ _ _ HR.out).trans ?_
      have e := splice_words f (fun _ => false) (nw n)
      unfold splice at e
      rw [List.toList_toArray, e]
      unfold wordsList
      rw [Array.toArray_toList]
  have HB2 : Hid (Below w.heap.size w w2) := by
    rw [← hw2]; exact below_setRow HB.out.drew hb' _
  clear hw2
  go_wp2
  go_ret
  exact ⟨p', b', rfl, HS2.out, hp', hb', HB2.out⟩
end Go.Proofs.YtgceaicokacgjaaDoor
