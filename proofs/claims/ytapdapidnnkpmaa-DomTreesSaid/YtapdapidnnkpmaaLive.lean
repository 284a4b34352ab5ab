/- four and live. -/
import Derived.Test.YtapdapidnnkpmaaTreeLaw
import Derived.Test.YtapdapidnnkpmaaOverR
namespace Go.Proofs.Ytapdapidnnkpmaa
open Go.RowKit

theorem RI.of_row {w : World} {b n : Nat} {f : Nat → Value} {g : Nat → Int} (h : w.rowIs b 3 n f) (hg : ∀ i, i < n → f i = .int .i64 (g i)) (hn : n ≤ 9223372036854775807) : RI w (.slice (some ⟨b, 0, none⟩) n n) ((List.range n).map g) :=
  ⟨_, n, n, rfl, by simp, hn, fun i x hx => by
    have hi : i < n := by have := (List.getElem?_eq_some_iff.1 hx).1; simpa using this
    simp [hi] at hx
    refine ⟨b, 0, rfl, h.lt, ?_⟩
    rw [Nat.zero_add, h.cell hi, hg i hi, hx]⟩
theorem RI.of_tree {w : World} {b n s : Nat} {u : Nat → Option Nat} (h : w.rowIs b 3 n (upEnd s u)) (hn : n ≤ 100000) : RI w (.slice (some ⟨b, 0, none⟩) n n) (upL s u n) :=
  RI.of_row h (fun i _ => upEnd_eq s u i) (by omega)

def fourE : List (Nat × Nat) := [(0, 1), (0, 2), (1, 3), (2, 3)]
set_option maxHeartbeats 4000000 in
theorem four_any (w : World) : Calls Try.prog 17 #[] w fun e w' => ∃ v, e = .returned v ∧ RE w' v (fourE.map toE) ∧ Below w.heap.size w w' := by
  go_enter Try.func17, Try.ntmps17
  go_wp2
  go_ret
  refine ⟨_, rfl, ⟨_, 4, 4, rfl, rfl, by omega, fun i x hx => ?_⟩, by go_grown⟩
  match i, hx with
  | 0, hx => simp [fourE, toE] at hx; subst hx; exact ⟨_, _, rfl, by simp, by simp, by simp⟩
  | 1, hx => simp [fourE, toE] at hx; subst hx; exact ⟨_, _, rfl, by simp, by simp, by simp⟩
  | 2, hx => simp [fourE, toE] at hx; subst hx; exact ⟨_, _, rfl, by simp, by simp, by simp⟩
  | 3, hx => simp [fourE, toE] at hx; subst hx; exact ⟨_, _, rfl, by simp, by simp, by simp⟩
  | i + 4, hx => simp [fourE] at hx
theorem four_up {u : Nat → Option Nat} (T : Tree fourE 0 u) : upL 0 u 4 = [-1, 0, 0, 0] := by
  have r1 : Rch fourE 0 1 := Rch.here.step (by decide)
  have r2 : Rch fourE 0 2 := Rch.here.step (by decide)
  have r3 : Rch fourE 0 3 := r1.step (by decide)
  have key : ∀ i, i ≠ 0 → Rch fourE 0 i → (∀ p, p ≠ 0 → p ≠ i → RchA fourE 0 p i) → upI 0 u i = 0 := by
    intro i hi hr h
    obtain ⟨p, hp⟩ := T.some hr
    obtain ⟨-, -, hne, hd⟩ := T.par hi hp
    rw [upI_some hi hp]
    by_cases e : p = 0
    · rw [e]; rfl
    · exact absurd (h p e hne) hd.2
  have a0 : ∀ p, p ≠ 0 → RchA fourE 0 p 0 := fun p h => .here (fun e => h e.symm)
  have h1 := key 1 (by decide) r1 (fun p h h1 => (a0 p h).step (by decide) (Ne.symm h1))
  have h2 := key 2 (by decide) r2 (fun p h h1 => (a0 p h).step (by decide) (Ne.symm h1))
  have h3 := key 3 (by decide) r3 (fun p h h3 => by
    by_cases e : p = 1
    · subst e
      exact ((a0 1 h).step (j := 2) (by decide) (by decide)).step (by decide) (by decide)
    · exact ((a0 p h).step (j := 1) (by decide) (Ne.symm e)).step (by decide) (Ne.symm h3))
  show [upI 0 u 0, upI 0 u 1, upI 0 u 2, upI 0 u 3] = _
  rw [upI_root, h1, h2, h3]
theorem four_graph : graphB 4 (fourE.map toE) = true := by decide

theorem litUp (w : World) : RI (w.alloc (.cells #[.int .i64 (-1), .int .i64 0, .int .i64 0, .int .i64 0] 3)) (.slice (some ⟨w.heap.size, 0, none⟩) 4 4) [-1, 0, 0, 0] :=
  ⟨_, 4, 4, rfl, rfl, by omega, fun i x hx => by
    match i, hx with
    | 0, hx => simp at hx; subst hx; exact ⟨_, _, rfl, by simp, by simp⟩
    | 1, hx => simp at hx; subst hx; exact ⟨_, _, rfl, by simp, by simp⟩
    | 2, hx => simp at hx; subst hx; exact ⟨_, _, rfl, by simp, by simp⟩
    | 3, hx => simp at hx; subst hx; exact ⟨_, _, rfl, by simp, by simp⟩
    | i + 4, hx => simp at hx⟩

set_option maxHeartbeats 4000000 in
theorem live_any (w : World) : Calls Try.prog 7 #[] w fun e w' => e = .returned (.bool true) ∧ Below w.heap.size w w' := by
  go_enter Try.func7, Try.ntmps7
  go_wp2_with fail
  refine (four_any w).mono ?_
  rintro e w1 ⟨v, rfl, hv, hb1⟩
  have HV := Lib.hid hv
  have HB1 := Lib.hid hb1
  clear hv hb1
  go_wp2_with fail
  refine (tree_main w1 4 0 v fourE HV.out (by decide) (by decide) (by decide) (by decide) four_graph).mono ?_
  rintro e w2 ⟨hb2, u, ub, ht, rfl, hrow⟩
  have HB2 : Hid (Below w.heap.size w w2) := HB1.out.trans (hb2.mono HB1.out.size)
  have hr := RI.of_tree hrow (by decide)
  rw [four_up ht] at hr
  have HR2 := Lib.hid hr
  clear hb2 ht hrow hr HV HB1
  go_wp2_with fail
  refine (sameInts_any _ _ _ _ _ (HR2.out.below (by go_grown)) (litUp _)).mono ?_
  rintro e w3 ⟨rfl, hb3⟩
  have HB23 : Hid (Below w2.heap.size w2 w3) := ((Below.refl _ _).alloc (Nat.le_refl _) _).trans (hb3.mono (by simp))
  have HR3 : Hid (RI w3 _ _) := HR2.out.below HB23.out
  have HB3 : Hid (Below w.heap.size w w3) := HB2.out.trans (HB23.out.mono HB2.out.size)
  clear hb3 HB23
  have ed : decide (([-1, 0, 0, 0] : List Int) = [-1, 0, 0, 0]) = true := by decide
  rw [ed]
  clear ed
  go_wp2_with fail
  refine (domOver_any w3 _ _ 0 3 HR3.out (by decide)).mono ?_
  have ed : overB [-1, 0, 0, 0] 0 3 = true := by decide
  rw [ed]
  clear ed
  rintro e w4 ⟨rfl, hb4⟩
  have HR4 : Hid (RI w4 _ _) := HR3.out.below hb4
  have HB4 : Hid (Below w.heap.size w w4) := HB3.out.trans (hb4.mono HB3.out.size)
  clear hb4
  go_wp2_with fail
  refine (domOver_any w4 _ _ 1 3 HR4.out (by decide)).mono ?_
  have ed : overB [-1, 0, 0, 0] 1 3 = false := by decide
  rw [ed]
  clear ed
  rintro e w5 ⟨rfl, hb5⟩
  have HB5 : Hid (Below w.heap.size w w5) := HB4.out.trans (hb5.mono HB4.out.size)
  clear hb5
  go_wp2
  go_ret
  exact ⟨rfl, HB5.out⟩
end Go.Proofs.Ytapdapidnnkpmaa
