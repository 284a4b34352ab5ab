/- Joined by my own program, in build order: Slots2. -/
import Derived.Test.YtgaipdillmleeaaGreatX9
set_option linter.unusedVariables false
set_option linter.unusedSimpArgs false
section
namespace Go.Proofs.YtgaipdillmleeaaGreat
open Go.RowKit
def eU (s : ByteArray) : Bool := s.data.toList == [105, 110, 116] || s.data.toList == [105, 110, 116, 91, 93] || bT s
def fB (x : Slot) : Bool := eU x.type && bT x.name
def jQ (w : World) : Prop := ∃ m, w.cell? ⟨0, 0, none⟩ = some (.int .i64 m)
theorem jQ.keep {w w' : World} (h : jQ w) (hb : Below w.heap.size w w') : jQ w' :=
 let ⟨m, hm⟩ := h
 ⟨m, (hb.cell (p := ⟨0, 0, none⟩) (wS hm)).trans hm⟩
theorem vC {w : World} (hM : jQ w) (s : ByteArray) (hs : s.size ≤ maxS) : Calls Tryz.prog 60 #[.string s] w fun e w' => e = .returned (.bool (bT s)) ∧ w = w' :=
 let ⟨m, hm⟩ := hM
 Ie s hs m w hm
theorem QK (s : ByteArray) (hs : s.size ≤ maxS) (w : World) (hM : jQ w) : Calls Tryz.prog 111 #[.string s] w fun e w' => e = .returned (.bool (eU s)) ∧ w = w' := by
 cases h1 : s.data.toList == [105, 110, 116] with
 | true =>
   have k1 : (s.toList == [105, 110, 116]) = true := by rw [Lib.toList_data]; exact h1
   have H := Lib.hid (show eU s = true by simp only [eU, h1]; rfl);clear h1;go_enter Tryz.func111, Tryz.ntmps111
   go_wp2;go_ret
   exact ⟨aG H.out.symm, rfl⟩
 | false =>
   cases h2 : s.data.toList == [105, 110, 116, 91, 93] with
   | true =>
     have k1 : (s.toList == [105, 110, 116]) = false := by rw [Lib.toList_data]; exact h1
     have k2 : (s.toList == [105, 110, 116, 91, 93]) = true := by rw [Lib.toList_data]; exact h2
     have H := Lib.hid (show eU s = true by simp only [eU, h1, h2]; rfl);clear h1 h2;go_enter Tryz.func111, Tryz.ntmps111
     go_wp2;go_ret
     exact ⟨aG H.out.symm, rfl⟩
   | false =>
     have k1 : (s.toList == [105, 110, 116]) = false := by rw [Lib.toList_data]; exact h1
     have k2 : (s.toList == [105, 110, 116, 91, 93]) = false := by rw [Lib.toList_data]; exact h2
     have H := Lib.hid (show eU s = bT s by simp only [eU, h1, h2, Bool.false_or]);clear h1 h2;go_enter Tryz.func111, Tryz.ntmps111
     go_wp2_with fail
     refine (vC hM s hs).mono ?_;rintro e w' ⟨rfl, rfl⟩;go_wp2
     all_goals go_ret
     all_goals exact ⟨aG H.out.symm, rfl⟩
theorem gq (s : ByteArray) (hs : s.size ≤ maxS) (w : World) : Calls Tryz.prog 75 #[.string s] w fun e w' => e = .returned (.bool (eU s)) ∧ w = w' := by
 cases h1 : s.data.toList == [105, 110, 116] with
 | true =>
   have k1 : (s.toList == [105, 110, 116]) = true := by rw [Lib.toList_data]; exact h1
   have H := Lib.hid (show eU s = true by simp only [eU, h1]; rfl);clear h1;go_enter Tryz.func75, Tryz.ntmps75
   go_wp2;go_ret
   exact ⟨aG H.out.symm, rfl⟩
 | false =>
   cases h2 : s.data.toList == [105, 110, 116, 91, 93] with
   | true =>
     have k1 : (s.toList == [105, 110, 116]) = false := by rw [Lib.toList_data]; exact h1
     have k2 : (s.toList == [105, 110, 116, 91, 93]) = true := by rw [Lib.toList_data]; exact h2
     have H := Lib.hid (show eU s = true by simp only [eU, h1, h2]; rfl);clear h1 h2;go_enter Tryz.func75, Tryz.ntmps75
     go_wp2;go_ret
     exact ⟨aG H.out.symm, rfl⟩
   | false =>
     have k1 : (s.toList == [105, 110, 116]) = false := by rw [Lib.toList_data]; exact h1
     have k2 : (s.toList == [105, 110, 116, 91, 93]) = false := by rw [Lib.toList_data]; exact h2
     have H := Lib.hid (show eU s = bT s by simp only [eU, h1, h2, Bool.false_or]);clear h1 h2;go_enter Tryz.func75, Tryz.ntmps75
     go_wp2_with fail
     refine (dA s hs w).mono ?_;rintro e w' ⟨rfl, rfl⟩;go_wp2
     all_goals go_ret
     all_goals exact ⟨aG H.out.symm, rfl⟩
theorem Bc (a b : ByteArray) (ha : a.size ≤ maxS) (hb : b.size ≤ maxS) (w : World) (hM : jQ w) :
 Calls Tryz.prog 62 #[.agg #[.string a, .string b]] w fun e w' => e = .returned (.bool (fB ⟨a, b⟩)) ∧ Below w.heap.size w w' := by
 have HM := Lib.hid hM
 clear hM
 go_enter Tryz.func62, Tryz.ntmps62
 go_wp2_with fail
 refine (QK _ ha _ (HM.out.keep (by go_grown))).mono ?_
 rintro e w' ⟨rfl, rfl⟩
 cases h1 : eU a with
 | false =>
   go_wp2;go_ret
   exact ⟨aG (by simp [fB, h1]), by go_grown⟩
 | true =>
   go_wp2_with fail
   refine (vC (HM.out.keep (by go_grown)) _ hb).mono ?_;rintro e w' ⟨rfl, rfl⟩;go_wp2
   all_goals go_ret
   all_goals exact ⟨aG (by simp [fB, h1]), by go_grown⟩
theorem Ii (a b : ByteArray) (ha : a.size ≤ maxS) (hb : b.size ≤ maxS) (w : World) (hM : jQ w) :
 Calls Tryz.prog 110 #[.agg #[.string a, .string b]] w fun e w' => e = .returned (.bool (!fB ⟨a, b⟩)) ∧ Below w.heap.size w w' := by
 have HM := Lib.hid hM
 clear hM
 go_enter Tryz.func110, Tryz.ntmps110
 go_wp2_with fail
 refine (Bc _ _ ha hb _ (HM.out.keep (by go_grown))).mono ?_
 rintro e w' ⟨rfl, hb⟩
 have HB : Hid (Below w.heap.size w w') := dn (by go_grown) hb
 clear hb
 go_wp2
 go_ret
 exact ⟨rfl, HB.out⟩
theorem xX (w : World) (hM : jQ w) (v : Value) (l : List Slot) (h : lI w (· < w.heap.size) v l) :
 Calls Tryz.prog 61 #[v] w fun e w' => e = .returned (.bool (l.all fB)) ∧ Below w.heap.size w w' := by
 have HM := Lib.hid hM
 have H := Lib.hid h
 clear hM h
 have hg : ∀ args W, (callFunc 110 args).run Tryz.prog W = .ok (.enter 110 args) W := fun _ _ => by kernel_rfl
 go_enter Tryz.func61, Tryz.ntmps61
 go_wp2_with fail
 refine (wh EH l (fun x => !fB x) 110 v w hg (fun cs x hx => by rw [hx.1]; rfl) H.out ?_).mono ?_
 ·intro W cs x hb _ hx
  obtain ⟨rfl, ha, hb'⟩ := hx
  exact Ii _ _ ha hb' W (HM.out.keep hb)
 rintro e w' ⟨rfl, hb⟩
 have HB := Lib.hid hb
 clear hb
 go_wp2
 go_ret
 refine ⟨aG ?_, HB.out⟩
 rw [List.all_eq_not_any_not]
theorem lK (w : World) (v : Value) (l : List Slot) (h : lI w (· < w.heap.size) v l) :
 Calls Tryz.prog 74 #[v] w fun e w' => e = .returned (.bool (l.all fB)) ∧ Below w.heap.size w w' := by
 obtain ⟨a, n, cap, rfl, hn, hcap, hmax, hel⟩ := h
 have H := Lib.hid hel
 have HN := Lib.hid hn
 unfold lU at hmax
 clear hel hn
 go_enter Tryz.func74, Tryz.ntmps74
 go_wp2
 go_loopw [7] (fun v7 w' => ∃ j : Nat, j ≤ n ∧ v7 = .int .i64 j ∧ Hid (l.all fB = (l.drop j).all fB) ∧ Hid (Below w.heap.size w w')) (fun v7 _ => n - (intOf v7).toNat)
 case atStart => exact ⟨0, by omega, rfl, rfl, Below.refl _ _⟩
 case round =>
  obtain ⟨j, hj, rfl, HP, HB⟩ := hrel;by_cases hlt : j < n
  ·obtain ⟨x, hx⟩ : ∃ x, l[j]? = some x := ⟨_, List.getElem?_eq_getElem (by rw [HN.out]; exact hlt)⟩;have HX := Lib.hid hx;clear hx;obtain ⟨b, off, cs, rfl, hbl, hc, hr⟩ := H.out j _ HX.out;obtain ⟨rfl, ht, hn'⟩ := hr;obtain ⟨c0, c1, -⟩ := aY (HB.out.block b hbl) hc;clear hc;have HD : Hid (l.drop j = x :: l.drop (j + 1)) := drop_of_getElem? HX.out;have HB1 : ∀ X, Hid (Below w.heap.size w (wr.alloc X)) := fun X => HB.out.alloc HB.out.size X
   cases h1 : eU x.type with
   | false =>
     go_wp2_with (go_at_call 75; refine (gq _ ht _).mono ?_; rintro e w' ⟨rfl, rfl⟩)
     go_ret
     exact ⟨aG (by rw [HP.out, HD.out]; simp [fB, h1]), (HB1 _).out⟩
   | true =>
     cases h2 : bT x.name with
     | false =>
       go_wp2_with (first
        | (go_at_call 75; refine (gq _ ht _).mono ?_; rintro e w' ⟨rfl, rfl⟩)
        | (go_at_call 73; refine (dA _ hn' _).mono ?_; rintro e w' ⟨rfl, rfl⟩))
       go_ret
       exact ⟨aG (by rw [HP.out, HD.out]; simp [fB, h2]), (HB1 _).out⟩
     | true =>
       go_wp2_with (first
        | (go_at_call 75; refine (gq _ ht _).mono ?_; rintro e w' ⟨rfl, rfl⟩)
        | (go_at_call 73; refine (dA _ hn' _).mono ?_; rintro e w' ⟨rfl, rfl⟩))
       refine ⟨⟨j + 1, by omega, by go_num, ?_, HB1 _⟩, by simp [intOf]; omega⟩;show l.all fB = (l.drop (j + 1)).all fB;rw [HP.out, HD.out]; simp [fB, h1, h2]
  ·obtain rfl : j = n := by omega
   have HE : Hid (l.drop j = []) := List.drop_of_length_le (by rw [HN.out]; exact Nat.le_refl _);go_wp2;go_ret
   exact ⟨aG (by rw [HP.out, HE.out]; rfl), HB.out⟩
end Go.Proofs.YtgaipdillmleeaaGreat
end
