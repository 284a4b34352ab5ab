/- The statements' own helpers: live, set. -/
import Derived.Test.YtgceaicokacgjaaDoorSets5
import Derived.Test.YtgceaicokacgjaaDoorInts
namespace Go.Proofs.YtgceaicokacgjaaDoor
open Go.RowKit

theorem SetAt.below {w w' : World} {p b n : Nat} {f : Nat → Bool} (h : SetAt w p b n f) (hb : Below w.heap.size w w') : SetAt w' p b n f := h.keep (hb.block p h.lt.1) (hb.block b h.lt.2)
theorem SetAt.apart {w : World} {p b n pt bt m : Nat} {f g : Nat → Bool} (hs : SetAt w p b n f) (h : SetAt w pt bt m g) : pt ≠ b := by
  intro e
  subst e
  have h1 : w.cell? ⟨pt, 1, none⟩ = some (.slice (some ⟨bt, 0, none⟩) (nw m) (nw m)) := h.c1
  have h2 : w.cell? ⟨pt, 1, none⟩ = (wordsArr f (nw n))[1]? := by simp [World.cell?, hs.row]
  rw [h1] at h2
  by_cases hk : 1 < nw n
  · rw [wordsArr_get f _ _ hk] at h2; cases h2
  · rw [Array.getElem?_eq_none (by rw [wordsArr_size]; omega)] at h2; cases h2
/-- A set that another one's change leaves as it is. -/
theorem SetAt.grown {w w' : World} {p b n pt bt m : Nat} {f g : Nat → Bool} (h : SetAt w pt bt m g) (hs : SetAt w p b n f) (hg : w.grownBy w' (some b)) (hne : bt ≠ b) : SetAt w' pt bt m g :=
  h.keep (hg.block pt h.lt.1 (fun e => hs.apart h (Option.some.inj e))) (hg.block bt h.lt.2 (fun e => hne (Option.some.inj e)))
theorem below_grown {W w w' : World} {b : Nat} (h : Below W.heap.size W w) (hg : w.grownBy w' (some b)) (hb : W.heap.size ≤ b) : Below W.heap.size W w' :=
  h.grown hg h.size (fun k hk => by cases hk; exact hb)

theorem size_any (p b n : Nat) (f : Nat → Bool) (w : World) (hs : SetAt w p b n f) :
    Calls Tryd.prog 17 #[.pointer (some ⟨p, 0, none⟩)] w fun e w' => e = .returned (.int .i64 n) ∧ w = w' := by
  have c0 := hs.c0
  clear hs
  go_enter Tryd.func17, Tryd.ntmps17
  go_wp2
  go_ret
  exact ⟨rfl, rfl⟩

def l0 : Nat → Bool := fun _ => false
def l1 : Nat → Bool := addI l0 70 69
def l2 : Nat → Bool := addI l1 70 69
def l3 : Nat → Bool := addI l2 70 70
theorem l_add : canAdd l0 70 69 = true ∧ canAdd l1 70 69 = false ∧ canAdd l2 70 70 = false := by decide
theorem l_list : elems l3 70 = [69] := by decide +kernel

set_option maxHeartbeats 1000000 in
theorem live_any (w : World) (hT : TabIn w) : Calls Tryd.prog 6 #[] w fun e w' => e = .returned (.bool true) ∧ Below w.heap.size w w' := by
  have HT := Lib.hid hT
  clear hT
  go_enter Tryd.func6, Tryd.ntmps6
  go_wp2_with fail
  refine (new_any 70 (by decide) _).mono ?_
  rintro e w1 ⟨p, b, rfl, hs1, hp, hb, hb1⟩
  have e70 : clampN 70 = 70 := by decide
  rw [e70] at hs1
  have HS1 : Hid (SetAt w1 p b 70 l0) := hs1
  have HB1 := Lib.hid hb1
  clear hs1 hb1 e70
  go_wp2_with fail
  refine (add_any 69 (by decide) _ _ _ _ _ HS1.out).mono ?_
  rw [l_add.1]
  rintro e w2 ⟨rfl, hs2, hg2⟩
  have HS2 : Hid (SetAt w2 p b 70 l1) := hs2
  have HB2 : Hid (Below w.heap.size w w2) := below_grown HB1.out hg2 hb
  clear hs2 hg2
  go_wp2_with fail
  refine (add_any 69 (by decide) _ _ _ _ _ HS2.out).mono ?_
  rw [l_add.2.1]
  rintro e w3 ⟨rfl, hs3, hg3⟩
  have HS3 : Hid (SetAt w3 p b 70 l2) := hs3
  have HB3 : Hid (Below w.heap.size w w3) := below_grown HB2.out hg3 hb
  clear hs3 hg3
  go_wp2_with fail
  refine (add_any 70 (by decide) _ _ _ _ _ HS3.out).mono ?_
  rw [l_add.2.2]
  rintro e w4 ⟨rfl, hs4, hg4⟩
  have HS4 : Hid (SetAt w4 p b 70 l3) := hs4
  have HB4 : Hid (Below w.heap.size w w4) := below_grown HB3.out hg4 hb
  clear hs4 hg4
  go_wp2_with fail
  refine (list_any _ _ _ _ _ (HT.out.keep HB4.out) HS4.out).mono ?_
  rw [l_list]
  rintro e w5 ⟨v, rfl, ho5⟩
  have HR5 : Hid (RI w5 v [69]) := RI.of_own (l := [69]) ho5.own
  have HS5 : Hid (SetAt w5 p b 70 l3) := HS4.out.below ho5.below
  have HB5 : Hid (Below w.heap.size w w5) := HB4.out.trans (ho5.below.mono HB4.out.size)
  clear ho5
  go_wp2_with fail
  refine (sameInts_any _ _ _ _ _ (HR5.out.below (by go_grown)) (RI.one (x := 69) (by simp))).mono ?_
  rintro e w6 ⟨rfl, hb6⟩
  have HB56 : Hid (Below w5.heap.size w5 w6) := ((Below.refl _ _).alloc (Nat.le_refl _) _).trans (hb6.mono (by simp))
  have HS6 : Hid (SetAt w6 p b 70 l3) := HS5.out.below HB56.out
  have HB6 : Hid (Below w.heap.size w w6) := HB5.out.trans (HB56.out.mono HB5.out.size)
  clear hb6
  have ed : decide (([69] : List Int) = [69]) = true := by decide
  rw [ed]
  go_wp2_with fail
  refine (len_any _ _ _ _ _ HS6.out).mono ?_
  rw [l_list]
  rintro e w' ⟨rfl, rfl⟩
  go_wp2_with fail
  refine (size_any _ _ _ _ _ HS6.out).mono ?_
  rintro e w' ⟨rfl, rfl⟩
  go_wp2
  go_ret
  exact ⟨rfl, HB6.out⟩

/-- The set of some numbers. -/
def fromL (n : Nat) (l : List Int) : Nat → Bool := l.foldl (fun f i => addI f n i) (fun _ => false)
theorem fromL_snoc (n : Nat) (l : List Int) (x : Int) : fromL n (l ++ [x]) = addI (fromL n l) n x := by simp [fromL]
theorem set_any (n : Nat) (hn : n ≤ 1000000) (v : Value) (l : List Int) (w : World) (hv : RSl 1 RInt w (· < w.heap.size) v l) :
    Calls Tryd.prog 7 #[.int .i64 n, v] w (NewSet w n (fromL n l)) := by
  obtain ⟨a, m, cap, rfl, hm, hcap, hmax, hel⟩ := hv
  have H := Lib.hid hel
  have HN := Lib.hid hm
  unfold maxS at hmax
  clear hel hm
  have hwf := Lib.hid (wf_nat n hn)
  go_enter Tryd.func7, Tryd.ntmps7
  go_wp2_with fail
  refine (new_any _ hwf.out _).mono ?_
  rintro e w1 ⟨p, b, rfl, hs1, hp, hb, hb1⟩
  have e1 : clampN n = n := by unfold clampN; omega
  rw [e1] at hs1
  have HS1 := Lib.hid hs1
  have HB1 := Lib.hid hb1
  clear hs1 hb1 e1
  go_wp2
  go_loopw [14] (fun v14 wr => ∃ k : Nat, k ≤ m ∧ v14 = .int .i64 k ∧ Hid (SetAt wr p b n (fromL n (l.take k))) ∧ Hid (Below w.heap.size w wr)) (fun v14 _ => m - (intOf v14).toNat)
  case atStart => exact ⟨0, by omega, rfl, HS1.out, HB1.out⟩
  case round =>
    obtain ⟨k, hk, rfl, HSR, HBR⟩ := hrel
    by_cases hlt : k < m
    · obtain ⟨x, hx⟩ : ∃ x, l[k]? = some x := ⟨_, List.getElem?_eq_getElem (by rw [HN.out]; exact hlt)⟩
      have HX := Lib.hid hx
      clear hx
      obtain ⟨b0, off, cs, rfl, hbl, hc, rfl, hwx⟩ := H.out k _ HX.out
      have hc := cellsAt_of_block (HBR.out.block b0 hbl) hc
      obtain ⟨c0, -⟩ := hc
      rw [Nat.mul_one] at c0
      have HWX := Lib.hid hwx
      clear hwx
      go_wp2_with fail
      refine (add_any _ HWX.out _ _ _ _ _ HSR.out).mono ?_
      rintro e w2 ⟨rfl, hs2, hg2⟩
      have HS2 : Hid (SetAt w2 p b n (fromL n (l.take (k + 1)))) := by
        show SetAt w2 p b n (fromL n (l.take (k + 1)))
        rw [List.take_add_one, HX.out]
        simp only [Option.toList_some]
        rw [fromL_snoc]
        exact hs2
      have HB2 : Hid (Below w.heap.size w w2) := below_grown HBR.out hg2 hb
      clear hs2 hg2
      go_wp2
      exact ⟨⟨k + 1, by omega, by go_num, HS2, HB2⟩, by simp [intOf]; omega⟩
    · obtain rfl : k = m := by omega
      have et := List.take_of_length_le (l := l) (i := k) (by rw [HN.out]; exact Nat.le_refl _)
      have HSF : Hid (SetAt wr p b n (fromL n l)) := by
        have h := HSR.out
        rw [et] at h
        exact h
      clear et
      go_wp2
      go_ret
      exact ⟨p, b, rfl, HSF.out, hp, hb, HBR.out⟩
end Go.Proofs.YtgceaicokacgjaaDoor
