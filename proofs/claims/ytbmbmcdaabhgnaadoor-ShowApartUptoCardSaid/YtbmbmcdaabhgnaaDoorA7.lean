/- Joined by my own program, in build order: Slots2. -/
import Derived.Test.YtbmbmcdaabhgnaaDoorA6
set_option linter.unusedVariables false
set_option linter.unusedSimpArgs false
section
namespace Go.Proofs.YtbmbmcdaabhgnaaDoor
open Go.RowKit
def isTypeB (s : ByteArray) : Bool := s.data.toList == [105, 110, 116] || s.data.toList == [105, 110, 116, 91, 93] || isNameB s
def slotB (x : Slot) : Bool := isTypeB x.type && isNameB x.name
def HasMax (w : World) : Prop := ∃ m, w.cell? ⟨0, 0, none⟩ = some (.int .i64 m)
theorem HasMax.keep {w w' : World} (h : HasMax w) (hb : Below w.heap.size w w') : HasMax w' :=
  let ⟨m, hm⟩ := h
  ⟨m, (hb.cell (p := ⟨0, 0, none⟩) (cell_lt hm)).trans hm⟩
theorem name_in {w : World} (hM : HasMax w) (s : ByteArray) (hs : s.size ≤ maxS) : Calls Tryd.prog 33 #[.string s] w fun e w' => e = .returned (.bool (isNameB s)) ∧ w = w' :=
  let ⟨m, hm⟩ := hM
  isName_any s hs m w hm
theorem typ_any (s : ByteArray) (hs : s.size ≤ maxS) (w : World) (hM : HasMax w) : Calls Tryd.prog 65 #[.string s] w fun e w' => e = .returned (.bool (isTypeB s)) ∧ w = w' := by
  cases h1 : s.data.toList == [105, 110, 116] with
  | true =>
    have k1 : (s.toList == [105, 110, 116]) = true := by rw [Lib.toList_data]; exact h1
    have H := Lib.hid (show isTypeB s = true by simp only [isTypeB, h1]; rfl)
    clear h1
    go_enter Tryd.func65, Tryd.ntmps65
    go_wp2
    go_ret
    exact ⟨ret_bool H.out.symm, rfl⟩
  | false =>
    cases h2 : s.data.toList == [105, 110, 116, 91, 93] with
    | true =>
      have k1 : (s.toList == [105, 110, 116]) = false := by rw [Lib.toList_data]; exact h1
      have k2 : (s.toList == [105, 110, 116, 91, 93]) = true := by rw [Lib.toList_data]; exact h2
      have H := Lib.hid (show isTypeB s = true by simp only [isTypeB, h1, h2]; rfl)
      clear h1 h2
      go_enter Tryd.func65, Tryd.ntmps65
      go_wp2
      go_ret
      exact ⟨ret_bool H.out.symm, rfl⟩
    | false =>
      have k1 : (s.toList == [105, 110, 116]) = false := by rw [Lib.toList_data]; exact h1
      have k2 : (s.toList == [105, 110, 116, 91, 93]) = false := by rw [Lib.toList_data]; exact h2
      have H := Lib.hid (show isTypeB s = isNameB s by simp only [isTypeB, h1, h2, Bool.false_or])
      clear h1 h2
      go_enter Tryd.func65, Tryd.ntmps65
      go_wp2_with fail
      refine (name_in hM s hs).mono ?_
      rintro e w' ⟨rfl, rfl⟩
      go_wp2
      all_goals go_ret
      all_goals exact ⟨ret_bool H.out.symm, rfl⟩
theorem slot_any (a b : ByteArray) (ha : a.size ≤ maxS) (hb : b.size ≤ maxS) (w : World) (hM : HasMax w) :
    Calls Tryd.prog 35 #[.agg #[.string a, .string b]] w fun e w' => e = .returned (.bool (slotB ⟨a, b⟩)) ∧ Below w.heap.size w w' := by
  have HM := Lib.hid hM
  clear hM
  go_enter Tryd.func35, Tryd.ntmps35
  go_wp2_with fail
  refine (typ_any _ ha _ (HM.out.keep (by go_grown))).mono ?_
  rintro e w' ⟨rfl, rfl⟩
  cases h1 : isTypeB a with
  | false =>
    go_wp2
    go_ret
    exact ⟨ret_bool (by simp [slotB, h1]), by go_grown⟩
  | true =>
    go_wp2_with fail
    refine (name_in (HM.out.keep (by go_grown)) _ hb).mono ?_
    rintro e w' ⟨rfl, rfl⟩
    go_wp2
    all_goals go_ret
    all_goals exact ⟨ret_bool (by simp [slotB, h1]), by go_grown⟩
theorem slots1_any (a b : ByteArray) (ha : a.size ≤ maxS) (hb : b.size ≤ maxS) (w : World) (hM : HasMax w) :
    Calls Tryd.prog 64 #[.agg #[.string a, .string b]] w fun e w' => e = .returned (.bool (!slotB ⟨a, b⟩)) ∧ Below w.heap.size w w' := by
  have HM := Lib.hid hM
  clear hM
  go_enter Tryd.func64, Tryd.ntmps64
  go_wp2_with fail
  refine (slot_any _ _ ha hb _ (HM.out.keep (by go_grown))).mono ?_
  rintro e w' ⟨rfl, hb⟩
  have HB : Hid (Below w.heap.size w w') := afterCall (by go_grown) hb
  clear hb
  go_wp2
  go_ret
  exact ⟨rfl, HB.out⟩
theorem slots_any (w : World) (hM : HasMax w) (v : Value) (l : List Slot) (h : RSlots w (· < w.heap.size) v l) :
    Calls Tryd.prog 34 #[v] w fun e w' => e = .returned (.bool (l.all slotB)) ∧ Below w.heap.size w w' := by
  have HM := Lib.hid hM
  have H := Lib.hid h
  clear hM h
  have hg : ∀ args W, (callFunc 64 args).run Tryd.prog W = .ok (.enter 64 args) W := fun _ _ => by kernel_rfl
  go_enter Tryd.func34, Tryd.ntmps34
  go_wp2_with fail
  refine (containsSlots_any RSlot l (fun x => !slotB x) 64 v w hg (fun cs x hx => by rw [hx.1]; rfl) H.out ?_).mono ?_
  · intro W cs x hb _ hx
    obtain ⟨rfl, ha, hb'⟩ := hx
    exact slots1_any _ _ ha hb' W (HM.out.keep hb)
  rintro e w' ⟨rfl, hb⟩
  have HB := Lib.hid hb
  clear hb
  go_wp2
  go_ret
  refine ⟨ret_bool ?_, HB.out⟩
  rw [List.all_eq_not_any_not]
end Go.Proofs.YtbmbmcdaabhgnaaDoor
end
