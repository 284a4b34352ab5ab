/- Joined by my own program, in build order: Index. -/
import Derived.Test.YthhpcjoaogmhbaaGreatDoorG17
import Derived.Test.YthhpcjoaogmhbaaGreatDoorG6
set_option linter.unusedVariables false
set_option linter.unusedSimpArgs false
section
namespace Go.Proofs.YthhpcjoaogmhbaaGreatDoor
open Go.RowKit
theorem Jm (nm su : ByteArray) (fv mv : Value) (nb : Nat) (name : ByteArray) (w : World) (hn : w.cell? ⟨nb, 0, none⟩ = some (.string name)) :
 Calls Tryz.prog 93 #[.agg #[.string nm, .string su, fv, mv], .pointer (some ⟨nb, 0, none⟩)] w fun e w' => e = .returned (.bool (nm.toList == name.toList)) ∧ Below w.heap.size w w' := by
 have hlt := vZ hn
 have hlt : nb < w.heap.size := hlt
 have hne : ¬ nb = w.heap.size := by omega
 go_enter Tryz.func93, Tryz.ntmps93
 go_wp2
 go_ret
 exact ⟨rfl, by go_grown⟩
theorem zX {α : Type} (R : List Value → α → Prop) (l : List α) (p : α → Bool) (g : FuncId) (c : Nat) (v : Value) (w : World) (hg : ∀ args W, (callFunc g args).run Tryz.prog W = .ok (.enter g args) W) (hlen : ∀ cs x, R cs x → cs.length = 4) (hv : RSl 4 R w (· < w.heap.size) v l)
 (HF : Hid (∀ (W : World) cs x, Below w.heap.size w W → x ∈ l → R cs x → Calls Tryz.prog g #[.agg cs.toArray, .pointer (some ⟨c, 0, none⟩)] W fun e w' => e = .returned (.bool (p x)) ∧ Below W.heap.size W w')) :
 Calls Tryz.prog 56 #[v, .func (.func g) #[] #[.pointer (some ⟨c, 0, none⟩)]] w fun e w' => e = .returned (.int .i64 (dR p l)) ∧ Below w.heap.size w w' := by
 obtain ⟨a, n, cap, rfl, hn, hcap, hmax, hel⟩ := hv
 have H := Lib.hid hel
 have HN := Lib.hid hn
 have HL := Lib.hid hlen
 unfold l8 at hmax
 clear hel hn hlen
 go_enter Tryz.func56, Tryz.ntmps56
 go_wp2
 go_loopw [8] (fun v8 w' => ∃ j : Nat, j ≤ n ∧ v8 = .int .i64 j ∧ Hid (∀ y ∈ l.take j, p y = false) ∧ Hid (Below w.heap.size w w')) (fun v8 _ => n - (intOf v8).toNat)
 case atStart => exact ⟨0, by omega, rfl, (by show ∀ y ∈ l.take 0, p y = false; simp), Below.refl _ _⟩
 case round =>
  obtain ⟨j, hj, rfl, HP, HB⟩ := hrel
  by_cases hlt : j < n
  ·obtain ⟨x, hx⟩ : ∃ x, l[j]? = some x := ⟨_, List.getElem?_eq_getElem (by rw [HN.out]; exact hlt)⟩
   have HX := Lib.hid hx
   clear hx
   obtain ⟨b, off, cs, rfl, hbl, hc, hr⟩ := H.out j _ HX.out
   obtain ⟨u0, u1, u2, u3, rfl⟩ := Nc (HL.out _ _ hr)
   have HR := Lib.hid hr
   have HC := aW (HB.out.block b hbl) hc
   simp only [gL, and_true] at HC
   obtain ⟨c0, c1, c2, c3⟩ := HC
   clear hc hr
   go_wp2_with fail
   refine (HF.out _ _ _ HB.out (List.mem_of_getElem? HX.out) HR.out).mono ?_
   rintro e w1 ⟨rfl, hb1⟩
   have HB1 : Hid (Below w.heap.size w w1) := HB.out.trans (hb1.mono HB.out.size)
   clear hb1
   cases hp : p x with
   | true =>
     go_wp2
     go_ret
     exact ⟨by rw [qR p l j x HX.out hp HP.out]; rfl, HB1.out⟩
   | false =>
     go_wp2
     refine ⟨⟨j + 1, by omega, by go_num, ?_, HB1⟩, by simp [intOf]; omega⟩
     show ∀ y ∈ l.take (j + 1), p y = false
     rw [List.take_add_one, HX.out]
     intro y hy
     simp only [Option.toList_some, List.mem_append, List.mem_singleton] at hy
     rcases hy with hy | rfl
     ·exact HP.out y hy
     ·exact hp
  ·obtain rfl : j = n := by omega
   have et := List.take_of_length_le (l := l) (i := j) (by rw [HN.out]; exact Nat.le_refl _)
   have HE : Hid (dR p l = -1) := iF p l (by have := HP.out; rw [et] at this; exact this)
   clear et
   go_wp2
   go_ret
   exact ⟨by rw [HE.out]; rfl, HB.out⟩
def jg (name : ByteArray) (c : Class) : Bool := c.name.toList == name.toList
theorem GV (d : Nat) (cv : Value) (l : List Class) (name : ByteArray) (nb : Nat) (w : World) (hv : mK d w (· < w.heap.size) cv l) (hn : w.cell? ⟨nb, 0, none⟩ = some (.string name)) :
 Calls Tryz.prog 56 #[cv, .func (.func 93) #[] #[.pointer (some ⟨nb, 0, none⟩)]] w fun e w' => e = .returned (.int .i64 (dR (jg name) l)) ∧ Below w.heap.size w w' := by
 refine zX (kG d w (· < w.heap.size)) l (jg name) _ nb cv w (fun _ _ => by kernel_rfl) (fun cs x h => by obtain ⟨fv, mv, rfl, -⟩ := h; rfl) hv (fun W cs x hb _ hr => ?_)
 obtain ⟨fv, mv, rfl, -⟩ := hr
 exact Jm _ _ _ _ _ _ _ (next hb hn)
end Go.Proofs.YthhpcjoaogmhbaaGreatDoor
end
