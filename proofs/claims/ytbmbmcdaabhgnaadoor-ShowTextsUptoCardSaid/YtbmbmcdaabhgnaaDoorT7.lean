/- Joined by my own program, in build order: Slots2. -/
import Derived.Test.YtbmbmcdaabhgnaaDoorT6
set_option linter.unusedVariables false
set_option linter.unusedSimpArgs false
section
namespace Go.Proofs.YtbmbmcdaabhgnaaDoor
open Go.RowKit
def isTypeB (s : ByteArray) : Bool := s.data.toList == [105, 110, 116] || s.data.toList == [105, 110, 116, 91, 93] || isNameB s
def slotB (x : Slot) : Bool := isTypeB x.type && isNameB x.name
def HasMax (w : World) : Prop := ∃ m, w.cell? ⟨0, 0, none⟩ = some (.int .i64 m)
theorem HasMax.keep {w w' : World} (h : HasMax w) (hb : Below w.heap.size w w') : HasMax w' :=
  let ⟨m, hm⟩ := h
  ⟨m, (hb.cell (p := ⟨0, 0, none⟩) (cell_lt hm)).trans hm⟩
theorem name_in {w : World} (hM : HasMax w) (s : ByteArray) (hs : s.size ≤ maxS) : Calls Tryd.prog 33 #[.string s] w fun e w' => e = .returned (.bool (isNameB s)) ∧ w = w' :=
  let ⟨m, hm⟩ := hM
  isName_any s hs m w hm
theorem typ_any (s : ByteArray) (hs : s.size ≤ maxS) (w : World) (hM : HasMax w) : Calls Tryd.prog 65 #[.string s] w fun e w' => e = .returned (.bool (isTypeB s)) ∧ w = w' := by
  cases h1 : s.data.toList == [105, 110, 116] with
  | true =>
    have k1 : (s.toList == [105, 110, 116]) = true := by rw [Lib.toList_data]; exact h1
    have H := Lib.hid (show isTypeB s = true by simp only [isTypeB, h1]; rfl)
    clear h1
    go_enter Tryd.func65, Tryd.ntmps65
    go_wp2
    go_ret
    exact ⟨ret_bool H.out.symm, rfl⟩
  | false =>
    cases h2 : s.data.toList == [105, 110, 116, 91, 93] with
    | true =>
      have k1 : (s.toList == [105, 110, 116]) = false := by rw [Lib.toList_data]; exact h1
      have k2 : (s.toList == [105, 110, 116, 91, 93]) = true := by rw [Lib.toList_data]; exact h2
      have H := Lib.hid (show isTypeB s = true by simp only [isTypeB, h1, h2]; rfl)
      clear h1 h2
      go_enter Tryd.func65, Tryd.ntmps65
      go_wp2
      go_ret
      exact ⟨ret_bool H.out.symm, rfl⟩
    | false =>
      have k1 : (s.toList == [105, 110, 116]) = false := by rw [Lib.toList_data]; exact h1
      have k2 : (s.toList == [105, 110, 116, 91, 93]) = false := by rw [Lib.toList_data]; exact h2
      have H := Lib.hid (show isTypeB s = isNameB s by simp only [isTypeB, h1, h2, Bool.false_or])
      clear h1 h2
      go_enter Tryd.func65, Tryd.ntmps65
      go_wp2_with fail
      refine (name_in hM s hs).mono ?_
      rintro e w' ⟨rfl, rfl⟩
      go_wp2
      all_goals go_ret
      all_goals exact ⟨ret_bool H.out.symm, rfl⟩
theorem refType_any (s : ByteArray) (hs : s.size ≤ maxS) (w : World) : Calls Tryd.prog 53 #[.string s] w fun e w' => e = .returned (.bool (isTypeB s)) ∧ w = w' := by
  cases h1 : s.data.toList == [105, 110, 116] with
  | true =>
    have k1 : (s.toList == [105, 110, 116]) = true := by rw [Lib.toList_data]; exact h1
    have H := Lib.hid (show isTypeB s = true by simp only [isTypeB, h1]; rfl)
    clear h1
    go_enter Tryd.func53, Tryd.ntmps53
    go_wp2
    go_ret
    exact ⟨ret_bool H.out.symm, rfl⟩
  | false =>
    cases h2 : s.data.toList == [105, 110, 116, 91, 93] with
    | true =>
      have k1 : (s.toList == [105, 110, 116]) = false := by rw [Lib.toList_data]; exact h1
      have k2 : (s.toList == [105, 110, 116, 91, 93]) = true := by rw [Lib.toList_data]; exact h2
      have H := Lib.hid (show isTypeB s = true by simp only [isTypeB, h1, h2]; rfl)
      clear h1 h2
      go_enter Tryd.func53, Tryd.ntmps53
      go_wp2
      go_ret
      exact ⟨ret_bool H.out.symm, rfl⟩
    | false =>
      have k1 : (s.toList == [105, 110, 116]) = false := by rw [Lib.toList_data]; exact h1
      have k2 : (s.toList == [105, 110, 116, 91, 93]) = false := by rw [Lib.toList_data]; exact h2
      have H := Lib.hid (show isTypeB s = isNameB s by simp only [isTypeB, h1, h2, Bool.false_or])
      clear h1 h2
      go_enter Tryd.func53, Tryd.ntmps53
      go_wp2_with fail
      refine (refIsName_any s hs w).mono ?_
      rintro e w' ⟨rfl, rfl⟩
      go_wp2
      all_goals go_ret
      all_goals exact ⟨ret_bool H.out.symm, rfl⟩
theorem slot_any (a b : ByteArray) (ha : a.size ≤ maxS) (hb : b.size ≤ maxS) (w : World) (hM : HasMax w) :
    Calls Tryd.prog 35 #[.agg #[.string a, .string b]] w fun e w' => e = .returned (.bool (slotB ⟨a, b⟩)) ∧ Below w.heap.size w w' := by
  have HM := Lib.hid hM
  clear hM
  go_enter Tryd.func35, Tryd.ntmps35
  go_wp2_with fail
  refine (typ_any _ ha _ (HM.out.keep (by go_grown))).mono ?_
  rintro e w' ⟨rfl, rfl⟩
  cases h1 : isTypeB a with
  | false =>
    go_wp2
    go_ret
    exact ⟨ret_bool (by simp [slotB, h1]), by go_grown⟩
  | true =>
    go_wp2_with fail
    refine (name_in (HM.out.keep (by go_grown)) _ hb).mono ?_
    rintro e w' ⟨rfl, rfl⟩
    go_wp2
    all_goals go_ret
    all_goals exact ⟨ret_bool (by simp [slotB, h1]), by go_grown⟩
theorem slots1_any (a b : ByteArray) (ha : a.size ≤ maxS) (hb : b.size ≤ maxS) (w : World) (hM : HasMax w) :
    Calls Tryd.prog 64 #[.agg #[.string a, .string b]] w fun e w' => e = .returned (.bool (!slotB ⟨a, b⟩)) ∧ Below w.heap.size w w' := by
  have HM := Lib.hid hM
  clear hM
  go_enter Tryd.func64, Tryd.ntmps64
  go_wp2_with fail
  refine (slot_any _ _ ha hb _ (HM.out.keep (by go_grown))).mono ?_
  rintro e w' ⟨rfl, hb⟩
  have HB : Hid (Below w.heap.size w w') := afterCall (by go_grown) hb
  clear hb
  go_wp2
  go_ret
  exact ⟨rfl, HB.out⟩
theorem slots_any (w : World) (hM : HasMax w) (v : Value) (l : List Slot) (h : RSlots w (· < w.heap.size) v l) :
    Calls Tryd.prog 34 #[v] w fun e w' => e = .returned (.bool (l.all slotB)) ∧ Below w.heap.size w w' := by
  have HM := Lib.hid hM
  have H := Lib.hid h
  clear hM h
  have hg : ∀ args W, (callFunc 64 args).run Tryd.prog W = .ok (.enter 64 args) W := fun _ _ => by kernel_rfl
  go_enter Tryd.func34, Tryd.ntmps34
  go_wp2_with fail
  refine (containsSlots_any RSlot l (fun x => !slotB x) 64 v w hg (fun cs x hx => by rw [hx.1]; rfl) H.out ?_).mono ?_
  · intro W cs x hb _ hx
    obtain ⟨rfl, ha, hb'⟩ := hx
    exact slots1_any _ _ ha hb' W (HM.out.keep hb)
  rintro e w' ⟨rfl, hb⟩
  have HB := Lib.hid hb
  clear hb
  go_wp2
  go_ret
  refine ⟨ret_bool ?_, HB.out⟩
  rw [List.all_eq_not_any_not]
theorem maySlots_any (w : World) (v : Value) (l : List Slot) (h : RSlots w (· < w.heap.size) v l) :
    Calls Tryd.prog 52 #[v] w fun e w' => e = .returned (.bool (l.all slotB)) ∧ Below w.heap.size w w' := by
  obtain ⟨a, n, cap, rfl, hn, hcap, hmax, hel⟩ := h
  have H := Lib.hid hel
  have HN := Lib.hid hn
  unfold maxC at hmax
  clear hel hn
  go_enter Tryd.func52, Tryd.ntmps52
  go_wp2
  go_loopw [7] (fun v7 w' => ∃ j : Nat, j ≤ n ∧ v7 = .int .i64 j ∧ Hid (l.all slotB = (l.drop j).all slotB) ∧ Hid (Below w.heap.size w w')) (fun v7 _ => n - (intOf v7).toNat)
  case atStart => exact ⟨0, by omega, rfl, rfl, Below.refl _ _⟩
  case round =>
    obtain ⟨j, hj, rfl, HP, HB⟩ := hrel
    by_cases hlt : j < n
    · obtain ⟨x, hx⟩ : ∃ x, l[j]? = some x := ⟨_, List.getElem?_eq_getElem (by rw [HN.out]; exact hlt)⟩
      have HX := Lib.hid hx
      clear hx
      obtain ⟨b, off, cs, rfl, hbl, hc, hr⟩ := H.out j _ HX.out
      obtain ⟨rfl, ht, hn'⟩ := hr
      obtain ⟨c0, c1, -⟩ := cellsAt_of_block (HB.out.block b hbl) hc
      clear hc
      have HD : Hid (l.drop j = x :: l.drop (j + 1)) := drop_of_getElem? HX.out
      have HB1 : ∀ X, Hid (Below w.heap.size w (wr.alloc X)) := fun X => HB.out.alloc HB.out.size X
      cases h1 : isTypeB x.type with
      | false =>
        go_wp2_with (go_at_call 53; refine (refType_any _ ht _).mono ?_; rintro e w' ⟨rfl, rfl⟩)
        go_ret
        exact ⟨ret_bool (by rw [HP.out, HD.out]; simp [slotB, h1]), (HB1 _).out⟩
      | true =>
        cases h2 : isNameB x.name with
        | false =>
          go_wp2_with (first
            | (go_at_call 53; refine (refType_any _ ht _).mono ?_; rintro e w' ⟨rfl, rfl⟩)
            | (go_at_call 44; refine (refIsName_any _ hn' _).mono ?_; rintro e w' ⟨rfl, rfl⟩))
          go_ret
          exact ⟨ret_bool (by rw [HP.out, HD.out]; simp [slotB, h2]), (HB1 _).out⟩
        | true =>
          go_wp2_with (first
            | (go_at_call 53; refine (refType_any _ ht _).mono ?_; rintro e w' ⟨rfl, rfl⟩)
            | (go_at_call 44; refine (refIsName_any _ hn' _).mono ?_; rintro e w' ⟨rfl, rfl⟩))
          refine ⟨⟨j + 1, by omega, by go_num, ?_, HB1 _⟩, by simp [intOf]; omega⟩
          show l.all slotB = (l.drop (j + 1)).all slotB
          rw [HP.out, HD.out]; simp [slotB, h1, h2]
    · obtain rfl : j = n := by omega
      have HE : Hid (l.drop j = []) := List.drop_of_length_le (by rw [HN.out]; exact Nat.le_refl _)
      go_wp2
      go_ret
      exact ⟨ret_bool (by rw [HP.out, HE.out]; rfl), HB.out⟩
end Go.Proofs.YtbmbmcdaabhgnaaDoor
end
