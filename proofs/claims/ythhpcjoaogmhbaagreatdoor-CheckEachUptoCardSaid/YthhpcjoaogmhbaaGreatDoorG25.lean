/- Joined by my own program, in build order: Alike. -/
import Derived.Test.YthhpcjoaogmhbaaGreatDoorG24
set_option linter.unusedVariables false
set_option linter.unusedSimpArgs false
section
namespace Go.Proofs.YthhpcjoaogmhbaaGreatDoor
open Go.RowKit
def typesOf (l : List Slot) : List Bytes := l.map fun s => s.type.toList
theorem AY {l : List Slot} {k : Nat} {x : Slot} (h : l[k]? = some x) : (typesOf l)[k]? = some x.type.toList := by simp [typesOf, h]
theorem nR (l : List Slot) : (typesOf l).length = l.length := by simp [typesOf]
theorem sameType (x y : Slot) (w : World) : Calls Tryz.prog 95 #[.agg #[.string x.type, .string x.name], .agg #[.string y.type, .string y.name]] w fun e w' => e = .returned (.bool (x.type.toList == y.type.toList)) ∧ Below w.heap.size w w' := by
 go_enter Tryz.func95, Tryz.ntmps95
 go_wp2
 go_ret
 exact ⟨rfl, by go_grown⟩
set_option maxHeartbeats 1000000 in
theorem Gw (u v : Value) (l m : List Slot) (w : World) (hu : lT w (· < w.heap.size) u l) (hv : lT w (· < w.heap.size) v m) :
 Calls Tryz.prog 94 #[u, v, .func (.func 95) #[] #[]] w fun e w' => e = .returned (.bool (decide (typesOf l = typesOf m))) ∧ Below w.heap.size w w' := by
 obtain ⟨a, n, cap, rfl, hn, hcap, hmax, hel⟩ := hu
 obtain ⟨a', n', cap', rfl, hn', hcap', hmax', hel'⟩ := hv
 unfold l8 at hmax hmax'
 have H := Lib.hid hel
 have H' := Lib.hid hel'
 have HN := Lib.hid hn
 have HN' := Lib.hid hn'
 clear hel hel' hn hn'
 by_cases hnn : n = n'
 ·subst hnn
  go_enter Tryz.func94, Tryz.ntmps94
  go_wp2
  go_loopw [17] (fun v17 wr => ∃ k : Nat, k ≤ n ∧ v17 = .int .i64 k ∧ Hid ((typesOf l).take k = (typesOf m).take k) ∧ Hid (Below w.heap.size w wr)) (fun v17 _ => n - (intOf v17).toNat)
  case atStart => exact ⟨0, by omega, rfl, rfl, Below.refl _ _⟩
  case round =>
   obtain ⟨k, hk, rfl, HQ, HB⟩ := hrel
   by_cases hlt : k < n
   ·obtain ⟨x, hx⟩ : ∃ x, l[k]? = some x := ⟨_, List.getElem?_eq_getElem (by rw [HN.out]; exact hlt)⟩
    obtain ⟨y, hy⟩ : ∃ y, m[k]? = some y := ⟨_, List.getElem?_eq_getElem (by rw [HN'.out]; exact hlt)⟩
    have HX := Lib.hid (AY hx)
    have HY := Lib.hid (AY hy)
    obtain ⟨b, off, cs, rfl, hb, hc, hr⟩ := H.out k _ hx
    obtain ⟨b', off', cs', rfl, hb', hc', hr'⟩ := H'.out k _ hy
    obtain ⟨rfl, -, -⟩ := hr
    obtain ⟨rfl, -, -⟩ := hr'
    have hc := aW (HB.out.block b hb) hc
    have hc' := aW (HB.out.block b' hb') hc'
    obtain ⟨c0, c1, -⟩ := hc
    obtain ⟨c2, c3, -⟩ := hc'
    have hbl : b < wr.heap.size := Nat.lt_of_lt_of_le hb HB.out.size
    have hbl' : b' < wr.heap.size := Nat.lt_of_lt_of_le hb' HB.out.size
    have hkn : (k : Int) < (n : Int) := by omega
    have HBA : Hid (∀ o1 o2, Below w.heap.size w ((wr.alloc o1).alloc o2)) := fun o1 o2 => by
     have b1 := HB.out.alloc HB.out.size o1
     exact b1.alloc b1.size o2
    clear hx hy hb hb'
    go_wp2_with fail
    refine (sameType x y _).mono ?_
    rintro e w2 ⟨rfl, hb2⟩
    have HB2 : Hid (Below w.heap.size w w2) := dF (HBA.out _ _) hb2
    clear hb2
    by_cases hxy : x.type.toList = y.type.toList
    ·have hq : (x.type.toList == y.type.toList) = true := by simpa using hxy
     have HQ2 : Hid ((typesOf l).take (k + 1) = (typesOf m).take (k + 1)) := by
      show _ = _
      rw [List.take_add_one, List.take_add_one, HX.out, HY.out, HQ.out, hxy]
     rw [hq]
     clear hq hxy
     go_wp2
     exact ⟨⟨k + 1, by omega, by go_num, HQ2, HB2⟩, by simp [intOf]; omega⟩
    ·have hq : (x.type.toList == y.type.toList) = false := by simpa using hxy
     have HD : Hid (decide (typesOf l = typesOf m) = false) := by
      show decide (typesOf l = typesOf m) = false
      rw [decide_eq_false_iff_not]
      intro e
      have := HX.out
      rw [e, HY.out] at this
      exact hxy (Option.some.inj this).symm
     rw [hq]
     clear hq hxy
     go_wp2
     go_ret
     exact ⟨by rw [HD.out]; rfl, HB2.out⟩
   ·obtain rfl : k = n := by omega
    have HD : Hid (decide (typesOf l = typesOf m) = true) := by
     show decide (typesOf l = typesOf m) = true
     rw [decide_eq_true_iff]
     have h := HQ.out
     rw [List.take_of_length_le (by rw [nR, HN.out]; exact Nat.le_refl _), List.take_of_length_le (by rw [nR, HN'.out]; exact Nat.le_refl _)] at h
     exact h
    go_wp2
    go_ret
    exact ⟨by rw [HD.out]; rfl, HB.out⟩
 ·have HD : Hid (decide (typesOf l = typesOf m) = false) := by
   show decide (typesOf l = typesOf m) = false
   rw [decide_eq_false_iff_not]
   intro e
   have := congrArg List.length e
   rw [nR, nR] at this
   exact hnn (HN.out.symm.trans (this.trans HN'.out))
  go_enter Tryz.func94, Tryz.ntmps94
  go_wp2
  all_goals go_ret
  all_goals exact ⟨by rw [HD.out]; rfl, Below.refl _ _⟩
def gJ (x y : Method) : Bool := (x.type.toList == y.type.toList) && decide (typesOf x.params = typesOf y.params)
theorem KP (x y : Method) (cx cy : List Value) (d : Nat) (w : World) (hx : jk d w (· < w.heap.size) cx x) (hy : jk d w (· < w.heap.size) cy y) :
 Calls Tryz.prog 62 #[.agg cx.toArray, .agg cy.toArray] w fun e w' => e = .returned (.bool (gJ x y)) ∧ Below w.heap.size w w' := by
 obtain ⟨pv, bv, rfl, -, -, hp, -⟩ := hx
 obtain ⟨pv', bv', rfl, -, -, hp', -⟩ := hy
 have HP := Lib.hid hp
 have HP' := Lib.hid hp'
 obtain ⟨a, n, c, rfl⟩ := RSl.shape hp
 obtain ⟨a', n', c', rfl⟩ := RSl.shape hp'
 clear hp hp'
 by_cases ht : x.type.toList = y.type.toList
 ·have h1 : (x.type.toList == y.type.toList) = true := by simpa using ht
  have HA : Hid (gJ x y = decide (typesOf x.params = typesOf y.params)) := by show gJ x y = _; unfold gJ; rw [h1, Bool.true_and]
  clear ht
  go_enter Tryz.func62, Tryz.ntmps62
  go_wp2_with fail
  refine (Gw _ _ x.params y.params _ (HP.out.mono (fun b hb => by simp; omega) (fun b hb => ?_)) (HP'.out.mono (fun b hb => by simp; omega) (fun b hb => ?_))).mono ?_
  ·exact (((Below.refl w.heap.size w).alloc (Nat.le_refl _) _).alloc (by simp) _).block b hb
  ·exact (((Below.refl w.heap.size w).alloc (Nat.le_refl _) _).alloc (by simp) _).block b hb
  rintro e w2 ⟨rfl, hb⟩
  have HB : Hid (Below w.heap.size w w2) := dF (by go_grown) hb
  clear hb
  go_wp2
  go_ret
  exact ⟨by rw [HA.out]; rfl, HB.out⟩
 ·have h1 : (x.type.toList == y.type.toList) = false := by simpa using ht
  have HA : Hid (gJ x y = false) := by show gJ x y = _; unfold gJ; rw [h1, Bool.false_and]
  clear ht
  go_enter Tryz.func62, Tryz.ntmps62
  go_wp2
  go_ret
  exact ⟨by rw [HA.out]; rfl, by go_grown⟩
end Go.Proofs.YthhpcjoaogmhbaaGreatDoor
end
