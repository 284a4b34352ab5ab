/- Joined by my own program, in build order: Slots2. -/
import Derived.Test.YthhpcjoaogmhbaaGreatDoorG6
set_option linter.unusedVariables false
set_option linter.unusedSimpArgs false
section
namespace Go.Proofs.YthhpcjoaogmhbaaGreatDoor
open Go.RowKit
def fC (s : ByteArray) : Bool := s.data.toList == [105, 110, 116] || s.data.toList == [105, 110, 116, 91, 93] || bK s
def fD (x : Slot) : Bool := fC x.type && bK x.name
def jY (w : World) : Prop := ∃ m, w.cell? ⟨1, 0, none⟩ = some (.int .i64 m)
theorem jY.keep {w w' : World} (h : jY w) (hb : Below w.heap.size w w') : jY w' :=
 let ⟨m, hm⟩ := h
 ⟨m, (hb.cell (p := ⟨1, 0, none⟩) (vZ hm)).trans hm⟩
theorem uK {w : World} (hM : jY w) (s : ByteArray) (hs : s.size ≤ maxS) : Calls Tryz.prog 53 #[.string s] w fun e w' => e = .returned (.bool (bK s)) ∧ w = w' :=
 let ⟨m, hm⟩ := hM
 Gr s hs m w hm
theorem OB (s : ByteArray) (hs : s.size ≤ maxS) (w : World) (hM : jY w) : Calls Tryz.prog 91 #[.string s] w fun e w' => e = .returned (.bool (fC s)) ∧ w = w' := by
 cases h1 : s.data.toList == [105, 110, 116] with
 | true =>
   have k1 : (s.toList == [105, 110, 116]) = true := by rw [Lib.toList_data]; exact h1
   have H := Lib.hid (show fC s = true by simp only [fC, h1]; rfl)
   clear h1
   go_enter Tryz.func91, Tryz.ntmps91
   go_wp2
   go_ret
   exact ⟨aH H.out.symm, rfl⟩
 | false =>
   cases h2 : s.data.toList == [105, 110, 116, 91, 93] with
   | true =>
     have k1 : (s.toList == [105, 110, 116]) = false := by rw [Lib.toList_data]; exact h1
     have k2 : (s.toList == [105, 110, 116, 91, 93]) = true := by rw [Lib.toList_data]; exact h2
     have H := Lib.hid (show fC s = true by simp only [fC, h1, h2]; rfl)
     clear h1 h2
     go_enter Tryz.func91, Tryz.ntmps91
     go_wp2
     go_ret
     exact ⟨aH H.out.symm, rfl⟩
   | false =>
     have k1 : (s.toList == [105, 110, 116]) = false := by rw [Lib.toList_data]; exact h1
     have k2 : (s.toList == [105, 110, 116, 91, 93]) = false := by rw [Lib.toList_data]; exact h2
     have H := Lib.hid (show fC s = bK s by simp only [fC, h1, h2, Bool.false_or])
     clear h1 h2
     go_enter Tryz.func91, Tryz.ntmps91
     go_wp2_with fail
     refine (uK hM s hs).mono ?_
     rintro e w' ⟨rfl, rfl⟩
     go_wp2
     all_goals go_ret
     all_goals exact ⟨aH H.out.symm, rfl⟩
theorem gP (s : ByteArray) (hs : s.size ≤ maxS) (w : World) : Calls Tryz.prog 44 #[.string s] w fun e w' => e = .returned (.bool (fC s)) ∧ w = w' := by
 cases h1 : s.data.toList == [105, 110, 116] with
 | true =>
   have k1 : (s.toList == [105, 110, 116]) = true := by rw [Lib.toList_data]; exact h1
   have H := Lib.hid (show fC s = true by simp only [fC, h1]; rfl)
   clear h1
   go_enter Tryz.func44, Tryz.ntmps44
   go_wp2
   go_ret
   exact ⟨aH H.out.symm, rfl⟩
 | false =>
   cases h2 : s.data.toList == [105, 110, 116, 91, 93] with
   | true =>
     have k1 : (s.toList == [105, 110, 116]) = false := by rw [Lib.toList_data]; exact h1
     have k2 : (s.toList == [105, 110, 116, 91, 93]) = true := by rw [Lib.toList_data]; exact h2
     have H := Lib.hid (show fC s = true by simp only [fC, h1, h2]; rfl)
     clear h1 h2
     go_enter Tryz.func44, Tryz.ntmps44
     go_wp2
     go_ret
     exact ⟨aH H.out.symm, rfl⟩
   | false =>
     have k1 : (s.toList == [105, 110, 116]) = false := by rw [Lib.toList_data]; exact h1
     have k2 : (s.toList == [105, 110, 116, 91, 93]) = false := by rw [Lib.toList_data]; exact h2
     have H := Lib.hid (show fC s = bK s by simp only [fC, h1, h2, Bool.false_or])
     clear h1 h2
     go_enter Tryz.func44, Tryz.ntmps44
     go_wp2_with fail
     refine (dN s hs w).mono ?_
     rintro e w' ⟨rfl, rfl⟩
     go_wp2
     all_goals go_ret
     all_goals exact ⟨aH H.out.symm, rfl⟩
theorem Au (a b : ByteArray) (ha : a.size ≤ maxS) (hb : b.size ≤ maxS) (w : World) (hM : jY w) :
 Calls Tryz.prog 55 #[.agg #[.string a, .string b]] w fun e w' => e = .returned (.bool (fD ⟨a, b⟩)) ∧ Below w.heap.size w w' := by
 have HM := Lib.hid hM
 clear hM
 go_enter Tryz.func55, Tryz.ntmps55
 go_wp2_with fail
 refine (OB _ ha _ (HM.out.keep (by go_grown))).mono ?_
 rintro e w' ⟨rfl, rfl⟩
 cases h1 : fC a with
 | false =>
   go_wp2
   go_ret
   exact ⟨aH (by simp [fD, h1]), by go_grown⟩
 | true =>
   go_wp2_with fail
   refine (uK (HM.out.keep (by go_grown)) _ hb).mono ?_
   rintro e w' ⟨rfl, rfl⟩
   go_wp2
   all_goals go_ret
   all_goals exact ⟨aH (by simp [fD, h1]), by go_grown⟩
theorem Gv (a b : ByteArray) (ha : a.size ≤ maxS) (hb : b.size ≤ maxS) (w : World) (hM : jY w) :
 Calls Tryz.prog 90 #[.agg #[.string a, .string b]] w fun e w' => e = .returned (.bool (!fD ⟨a, b⟩)) ∧ Below w.heap.size w w' := by
 have HM := Lib.hid hM
 clear hM
 go_enter Tryz.func90, Tryz.ntmps90
 go_wp2_with fail
 refine (Au _ _ ha hb _ (HM.out.keep (by go_grown))).mono ?_
 rintro e w' ⟨rfl, hb⟩
 have HB : Hid (Below w.heap.size w w') := dF (by go_grown) hb
 clear hb
 go_wp2
 go_ret
 exact ⟨rfl, HB.out⟩
theorem xA (w : World) (hM : jY w) (v : Value) (l : List Slot) (h : lT w (· < w.heap.size) v l) :
 Calls Tryz.prog 54 #[v] w fun e w' => e = .returned (.bool (l.all fD)) ∧ Below w.heap.size w w' := by
 have HM := Lib.hid hM
 have H := Lib.hid h
 clear hM h
 have hg : ∀ args W, (callFunc 90 args).run Tryz.prog W = .ok (.enter 90 args) W := fun _ _ => by kernel_rfl
 go_enter Tryz.func54, Tryz.ntmps54
 go_wp2_with fail
 refine (vH DW l (fun x => !fD x) 90 v w hg (fun cs x hx => by rw [hx.1]; rfl) H.out ?_).mono ?_
 ·intro W cs x hb _ hx
  obtain ⟨rfl, ha, hb'⟩ := hx
  exact Gv _ _ ha hb' W (HM.out.keep hb)
 rintro e w' ⟨rfl, hb⟩
 have HB := Lib.hid hb
 clear hb
 go_wp2
 go_ret
 refine ⟨aH ?_, HB.out⟩
 rw [List.all_eq_not_any_not]
theorem lY (w : World) (v : Value) (l : List Slot) (h : lT w (· < w.heap.size) v l) :
 Calls Tryz.prog 43 #[v] w fun e w' => e = .returned (.bool (l.all fD)) ∧ Below w.heap.size w w' := by
 obtain ⟨a, n, cap, rfl, hn, hcap, hmax, hel⟩ := h
 have H := Lib.hid hel
 have HN := Lib.hid hn
 unfold l8 at hmax
 clear hel hn
 go_enter Tryz.func43, Tryz.ntmps43
 go_wp2
 go_loopw [7] (fun v7 w' => ∃ j : Nat, j ≤ n ∧ v7 = .int .i64 j ∧ Hid (l.all fD = (l.drop j).all fD) ∧ Hid (Below w.heap.size w w')) (fun v7 _ => n - (intOf v7).toNat)
 case atStart => exact ⟨0, by omega, rfl, rfl, Below.refl _ _⟩
 case round =>
  obtain ⟨j, hj, rfl, HP, HB⟩ := hrel
  by_cases hlt : j < n
  ·obtain ⟨x, hx⟩ : ∃ x, l[j]? = some x := ⟨_, List.getElem?_eq_getElem (by rw [HN.out]; exact hlt)⟩
   have HX := Lib.hid hx
   clear hx
   obtain ⟨b, off, cs, rfl, hbl, hc, hr⟩ := H.out j _ HX.out
   obtain ⟨rfl, ht, hn'⟩ := hr
   obtain ⟨c0, c1, -⟩ := aW (HB.out.block b hbl) hc
   clear hc
   have HD : Hid (l.drop j = x :: l.drop (j + 1)) := drop_of_getElem? HX.out
   have HB1 : ∀ X, Hid (Below w.heap.size w (wr.alloc X)) := fun X => HB.out.alloc HB.out.size X
   cases h1 : fC x.type with
   | false =>
     go_wp2_with (go_at_call 44; refine (gP _ ht _).mono ?_; rintro e w' ⟨rfl, rfl⟩)
     go_ret
     exact ⟨aH (by rw [HP.out, HD.out]; simp [fD, h1]), (HB1 _).out⟩
   | true =>
     cases h2 : bK x.name with
     | false =>
       go_wp2_with (first
        | (go_at_call 44; refine (gP _ ht _).mono ?_; rintro e w' ⟨rfl, rfl⟩)
        | (go_at_call 42; refine (dN _ hn' _).mono ?_; rintro e w' ⟨rfl, rfl⟩))
       go_ret
       exact ⟨aH (by rw [HP.out, HD.out]; simp [fD, h2]), (HB1 _).out⟩
     | true =>
       go_wp2_with (first
        | (go_at_call 44; refine (gP _ ht _).mono ?_; rintro e w' ⟨rfl, rfl⟩)
        | (go_at_call 42; refine (dN _ hn' _).mono ?_; rintro e w' ⟨rfl, rfl⟩))
       refine ⟨⟨j + 1, by omega, by go_num, ?_, HB1 _⟩, by simp [intOf]; omega⟩
       show l.all fD = (l.drop (j + 1)).all fD
       rw [HP.out, HD.out]; simp [fD, h1, h2]
  ·obtain rfl : j = n := by omega
   have HE : Hid (l.drop j = []) := List.drop_of_length_le (by rw [HN.out]; exact Nat.le_refl _)
   go_wp2
   go_ret
   exact ⟨aH (by rw [HP.out, HE.out]; rfl), HB.out⟩
end Go.Proofs.YthhpcjoaogmhbaaGreatDoor
end
