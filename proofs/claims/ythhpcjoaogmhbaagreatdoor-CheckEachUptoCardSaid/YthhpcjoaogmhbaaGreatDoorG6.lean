/- Joined by my own program, in build order: Slots. -/
import Derived.Test.YthhpcjoaogmhbaaGreatDoorG5
set_option linter.unusedVariables false
set_option linter.unusedSimpArgs false
section
namespace Go.Proofs.YthhpcjoaogmhbaaGreatDoor
open Go.RowKit
def dR {α : Type} (p : α → Bool) : List α → Int
 | [] => -1
 | x :: l => if p x then 0 else if dR p l = -1 then -1 else dR p l + 1
theorem rW {α : Type} (p : α → Bool) : ∀ l : List α, -1 ≤ dR p l
 | [] => Int.le_refl _
 | x :: l => by have := rW p l; unfold dR; split; omega; split <;> omega
theorem mX {α : Type} (p : α → Bool) : ∀ l : List α, decide (0 ≤ dR p l) = l.any p
 | [] => rfl
 | x :: l => by
   have h := mX p l
   have h2 := rW p l
   unfold dR
   by_cases hx : p x = true
   ·simp [hx]
   ·rw [if_neg hx, List.any_cons, ← h]
    simp only [hx, Bool.false_or]
    split
    ·rename_i h3; rw [h3]
    ·rename_i h3; rw [Bool.eq_iff_iff]; simp; omega
theorem qR {α : Type} (p : α → Bool) : ∀ (l : List α) (k : Nat) (x : α), l[k]? = some x → p x = true → (∀ y ∈ l.take k, p y = false) → dR p l = k
 | [], k, x, h, _, _ => by simp at h
 | y :: l, 0, x, h, hp, _ => by simp at h; subst h; simp [dR, hp]
 | y :: l, k + 1, x, h, hp, hno => by
   have hy := hno y (by simp)
   have := qR p l k x (by simpa using h) hp (fun z hz => hno z (by simp [hz]))
   unfold dR
   rw [if_neg (by simp [hy]), if_neg (by omega), this]; simp
theorem iF {α : Type} (p : α → Bool) : ∀ (l : List α), (∀ y ∈ l, p y = false) → dR p l = -1
 | [], _ => rfl
 | y :: l, hno => by
   have hy := hno y (by simp)
   unfold dR
   rw [if_neg (by simp [hy]), if_pos (iF p l fun z hz => hno z (by simp [hz]))]
theorem Ad {α : Type} (R : List Value → α → Prop) (l : List α) (p : α → Bool) (g : FuncId) (v : Value) (w : World) (hg : ∀ args W, (callFunc g args).run Tryz.prog W = .ok (.enter g args) W) (hlen : ∀ cs x, R cs x → cs.length = 2) (hv : RSl 2 R w (· < w.heap.size) v l)
 (HF : Hid (∀ (W : World) cs x, Below w.heap.size w W → x ∈ l → R cs x → Calls Tryz.prog g #[.agg cs.toArray] W fun e w' => e = .returned (.bool (p x)) ∧ Below W.heap.size W w')) :
 Calls Tryz.prog 71 #[v, .func (.func g) #[] #[]] w fun e w' => e = .returned (.int .i64 (dR p l)) ∧ Below w.heap.size w w' := by
 obtain ⟨a, n, cap, rfl, hn, hcap, hmax, hel⟩ := hv
 have H := Lib.hid hel
 have HN := Lib.hid hn
 have HL := Lib.hid hlen
 unfold l8 at hmax
 clear hel hn hlen
 go_enter Tryz.func71, Tryz.ntmps71
 go_wp2
 go_loopw [8] (fun v8 w' => ∃ j : Nat, j ≤ n ∧ v8 = .int .i64 j ∧ Hid (∀ y ∈ l.take j, p y = false) ∧ Hid (Below w.heap.size w w')) (fun v8 _ => n - (intOf v8).toNat)
 case atStart => exact ⟨0, by omega, rfl, (by show ∀ y ∈ l.take 0, p y = false; simp), Below.refl _ _⟩
 case round =>
  obtain ⟨j, hj, rfl, HP, HB⟩ := hrel
  by_cases hlt : j < n
  ·obtain ⟨x, hx⟩ : ∃ x, l[j]? = some x := ⟨_, List.getElem?_eq_getElem (by rw [HN.out]; exact hlt)⟩
   have HX := Lib.hid hx
   clear hx
   obtain ⟨b, off, cs, rfl, hbl, hc, hr⟩ := H.out j _ HX.out
   obtain ⟨u0, u1, rfl⟩ := len2 (HL.out _ _ hr)
   have HR := Lib.hid hr
   have HC := aW (HB.out.block b hbl) hc
   simp only [gL, and_true] at HC
   obtain ⟨c0, c1⟩ := HC
   clear hc hr
   go_wp2_with fail
   refine (HF.out _ _ _ HB.out (List.mem_of_getElem? HX.out) HR.out).mono ?_
   rintro e w1 ⟨rfl, hb1⟩
   have HB1 : Hid (Below w.heap.size w w1) := HB.out.trans (hb1.mono HB.out.size)
   clear hb1
   cases hp : p x with
   | true =>
     go_wp2
     go_ret
     exact ⟨by rw [qR p l j x HX.out hp HP.out]; rfl, HB1.out⟩
   | false =>
     go_wp2
     refine ⟨⟨j + 1, by omega, by go_num, ?_, HB1⟩, by simp [intOf]; omega⟩
     show ∀ y ∈ l.take (j + 1), p y = false
     rw [List.take_add_one, HX.out]
     intro y hy
     simp only [Option.toList_some, List.mem_append, List.mem_singleton] at hy
     rcases hy with hy | rfl
     ·exact HP.out y hy
     ·exact hp
  ·obtain rfl : j = n := by omega
   have et := List.take_of_length_le (l := l) (i := j) (by rw [HN.out]; exact Nat.le_refl _)
   have HE : Hid (dR p l = -1) := iF p l (by have := HP.out; rw [et] at this; exact this)
   clear et
   go_wp2
   go_ret
   exact ⟨by rw [HE.out]; rfl, HB.out⟩
theorem zH {α : Type} (R : List Value → α → Prop) (l : List α) (p : α → Bool) (g : FuncId) (v : Value) (w : World) (hg : ∀ args W, (callFunc g args).run Tryz.prog W = .ok (.enter g args) W) (hlen : ∀ cs x, R cs x → cs.length = 4) (hv : RSl 4 R w (· < w.heap.size) v l)
 (HF : Hid (∀ (W : World) cs x, Below w.heap.size w W → x ∈ l → R cs x → Calls Tryz.prog g #[.agg cs.toArray] W fun e w' => e = .returned (.bool (p x)) ∧ Below W.heap.size W w')) :
 Calls Tryz.prog 96 #[v, .func (.func g) #[] #[]] w fun e w' => e = .returned (.int .i64 (dR p l)) ∧ Below w.heap.size w w' := by
 obtain ⟨a, n, cap, rfl, hn, hcap, hmax, hel⟩ := hv
 have H := Lib.hid hel
 have HN := Lib.hid hn
 have HL := Lib.hid hlen
 unfold l8 at hmax
 clear hel hn hlen
 go_enter Tryz.func96, Tryz.ntmps96
 go_wp2
 go_loopw [8] (fun v8 w' => ∃ j : Nat, j ≤ n ∧ v8 = .int .i64 j ∧ Hid (∀ y ∈ l.take j, p y = false) ∧ Hid (Below w.heap.size w w')) (fun v8 _ => n - (intOf v8).toNat)
 case atStart => exact ⟨0, by omega, rfl, (by show ∀ y ∈ l.take 0, p y = false; simp), Below.refl _ _⟩
 case round =>
  obtain ⟨j, hj, rfl, HP, HB⟩ := hrel
  by_cases hlt : j < n
  ·obtain ⟨x, hx⟩ : ∃ x, l[j]? = some x := ⟨_, List.getElem?_eq_getElem (by rw [HN.out]; exact hlt)⟩
   have HX := Lib.hid hx
   clear hx
   obtain ⟨b, off, cs, rfl, hbl, hc, hr⟩ := H.out j _ HX.out
   obtain ⟨u0, u1, u2, u3, rfl⟩ := Nc (HL.out _ _ hr)
   have HR := Lib.hid hr
   have HC := aW (HB.out.block b hbl) hc
   simp only [gL, and_true] at HC
   obtain ⟨c0, c1, c2, c3⟩ := HC
   clear hc hr
   go_wp2_with fail
   refine (HF.out _ _ _ HB.out (List.mem_of_getElem? HX.out) HR.out).mono ?_
   rintro e w1 ⟨rfl, hb1⟩
   have HB1 : Hid (Below w.heap.size w w1) := HB.out.trans (hb1.mono HB.out.size)
   clear hb1
   cases hp : p x with
   | true =>
     go_wp2
     go_ret
     exact ⟨by rw [qR p l j x HX.out hp HP.out]; rfl, HB1.out⟩
   | false =>
     go_wp2
     refine ⟨⟨j + 1, by omega, by go_num, ?_, HB1⟩, by simp [intOf]; omega⟩
     show ∀ y ∈ l.take (j + 1), p y = false
     rw [List.take_add_one, HX.out]
     intro y hy
     simp only [Option.toList_some, List.mem_append, List.mem_singleton] at hy
     rcases hy with hy | rfl
     ·exact HP.out y hy
     ·exact hp
  ·obtain rfl : j = n := by omega
   have et := List.take_of_length_le (l := l) (i := j) (by rw [HN.out]; exact Nat.le_refl _)
   have HE : Hid (dR p l = -1) := iF p l (by have := HP.out; rw [et] at this; exact this)
   clear et
   go_wp2
   go_ret
   exact ⟨by rw [HE.out]; rfl, HB.out⟩
theorem Ai {α : Type} (R : List Value → α → Prop) (l : List α) (p : α → Bool) (g : FuncId) (v : Value) (w : World) (hg : ∀ args W, (callFunc g args).run Tryz.prog W = .ok (.enter g args) W) (hlen : ∀ cs x, R cs x → cs.length = 7) (hv : RSl 7 R w (· < w.heap.size) v l)
 (HF : Hid (∀ (W : World) cs x, Below w.heap.size w W → x ∈ l → R cs x → Calls Tryz.prog g #[.agg cs.toArray] W fun e w' => e = .returned (.bool (p x)) ∧ Below W.heap.size W w')) :
 Calls Tryz.prog 107 #[v, .func (.func g) #[] #[]] w fun e w' => e = .returned (.int .i64 (dR p l)) ∧ Below w.heap.size w w' := by
 obtain ⟨a, n, cap, rfl, hn, hcap, hmax, hel⟩ := hv
 have H := Lib.hid hel
 have HN := Lib.hid hn
 have HL := Lib.hid hlen
 unfold l8 at hmax
 clear hel hn hlen
 go_enter Tryz.func107, Tryz.ntmps107
 go_wp2
 go_loopw [8] (fun v8 w' => ∃ j : Nat, j ≤ n ∧ v8 = .int .i64 j ∧ Hid (∀ y ∈ l.take j, p y = false) ∧ Hid (Below w.heap.size w w')) (fun v8 _ => n - (intOf v8).toNat)
 case atStart => exact ⟨0, by omega, rfl, (by show ∀ y ∈ l.take 0, p y = false; simp), Below.refl _ _⟩
 case round =>
  obtain ⟨j, hj, rfl, HP, HB⟩ := hrel
  by_cases hlt : j < n
  ·obtain ⟨x, hx⟩ : ∃ x, l[j]? = some x := ⟨_, List.getElem?_eq_getElem (by rw [HN.out]; exact hlt)⟩
   have HX := Lib.hid hx
   clear hx
   obtain ⟨b, off, cs, rfl, hbl, hc, hr⟩ := H.out j _ HX.out
   obtain ⟨u0, u1, u2, u3, u4, u5, u6, rfl⟩ := R6 (HL.out _ _ hr)
   have HR := Lib.hid hr
   have HC := aW (HB.out.block b hbl) hc
   simp only [gL, and_true] at HC
   obtain ⟨c0, c1, c2, c3, c4, c5, c6⟩ := HC
   clear hc hr
   go_wp2_with fail
   refine (HF.out _ _ _ HB.out (List.mem_of_getElem? HX.out) HR.out).mono ?_
   rintro e w1 ⟨rfl, hb1⟩
   have HB1 : Hid (Below w.heap.size w w1) := HB.out.trans (hb1.mono HB.out.size)
   clear hb1
   cases hp : p x with
   | true =>
     go_wp2
     go_ret
     exact ⟨by rw [qR p l j x HX.out hp HP.out]; rfl, HB1.out⟩
   | false =>
     go_wp2
     refine ⟨⟨j + 1, by omega, by go_num, ?_, HB1⟩, by simp [intOf]; omega⟩
     show ∀ y ∈ l.take (j + 1), p y = false
     rw [List.take_add_one, HX.out]
     intro y hy
     simp only [Option.toList_some, List.mem_append, List.mem_singleton] at hy
     rcases hy with hy | rfl
     ·exact HP.out y hy
     ·exact hp
  ·obtain rfl : j = n := by omega
   have et := List.take_of_length_le (l := l) (i := j) (by rw [HN.out]; exact Nat.le_refl _)
   have HE : Hid (dR p l = -1) := iF p l (by have := HP.out; rw [et] at this; exact this)
   clear et
   go_wp2
   go_ret
   exact ⟨by rw [HE.out]; rfl, HB.out⟩
theorem vH {α : Type} (R : List Value → α → Prop) (l : List α) (p : α → Bool) (g : FuncId) (v : Value) (w : World) (hg : ∀ args W, (callFunc g args).run Tryz.prog W = .ok (.enter g args) W) (hlen : ∀ cs x, R cs x → cs.length = 2) (hv : RSl 2 R w (· < w.heap.size) v l)
 (HF : Hid (∀ (W : World) cs x, Below w.heap.size w W → x ∈ l → R cs x → Calls Tryz.prog g #[.agg cs.toArray] W fun e w' => e = .returned (.bool (p x)) ∧ Below W.heap.size W w')) :
 Calls Tryz.prog 89 #[v, .func (.func g) #[] #[]] w fun e w' => e = .returned (.bool (l.any p)) ∧ Below w.heap.size w w' := by
 have HL := Lib.hid hlen
 have HV := Lib.hid hv
 clear hlen hv
 have HG := Lib.hid hg
 clear hg
 go_enter Tryz.func89, Tryz.ntmps89
 go_wp2_with fail
 refine (Ad R l p g v w HG.out HL.out HV.out HF).mono ?_
 rintro e w' ⟨rfl, hb⟩
 have HB := Lib.hid hb
 clear hb
 go_wp2
 go_ret
 exact ⟨by rw [← mX]; rfl, HB.out⟩
theorem jo {α : Type} (R : List Value → α → Prop) (l : List α) (p : α → Bool) (g : FuncId) (v : Value) (w : World) (hg : ∀ args W, (callFunc g args).run Tryz.prog W = .ok (.enter g args) W) (hlen : ∀ cs x, R cs x → cs.length = 4) (hv : RSl 4 R w (· < w.heap.size) v l)
 (HF : Hid (∀ (W : World) cs x, Below w.heap.size w W → x ∈ l → R cs x → Calls Tryz.prog g #[.agg cs.toArray] W fun e w' => e = .returned (.bool (p x)) ∧ Below W.heap.size W w')) :
 Calls Tryz.prog 64 #[v, .func (.func g) #[] #[]] w fun e w' => e = .returned (.bool (l.any p)) ∧ Below w.heap.size w w' := by
 have HL := Lib.hid hlen
 have HV := Lib.hid hv
 clear hlen hv
 have HG := Lib.hid hg
 clear hg
 go_enter Tryz.func64, Tryz.ntmps64
 go_wp2_with fail
 refine (zH R l p g v w HG.out HL.out HV.out HF).mono ?_
 rintro e w' ⟨rfl, hb⟩
 have HB := Lib.hid hb
 clear hb
 go_wp2
 go_ret
 exact ⟨by rw [← mX]; rfl, HB.out⟩
theorem u7 {α : Type} (R : List Value → α → Prop) (l : List α) (p : α → Bool) (g : FuncId) (v : Value) (w : World) (hg : ∀ args W, (callFunc g args).run Tryz.prog W = .ok (.enter g args) W) (hlen : ∀ cs x, R cs x → cs.length = 7) (hv : RSl 7 R w (· < w.heap.size) v l)
 (HF : Hid (∀ (W : World) cs x, Below w.heap.size w W → x ∈ l → R cs x → Calls Tryz.prog g #[.agg cs.toArray] W fun e w' => e = .returned (.bool (p x)) ∧ Below W.heap.size W w')) :
 Calls Tryz.prog 82 #[v, .func (.func g) #[] #[]] w fun e w' => e = .returned (.bool (l.any p)) ∧ Below w.heap.size w w' := by
 have HL := Lib.hid hlen
 have HV := Lib.hid hv
 clear hlen hv
 have HG := Lib.hid hg
 clear hg
 go_enter Tryz.func82, Tryz.ntmps82
 go_wp2_with fail
 refine (Ai R l p g v w HG.out HL.out HV.out HF).mono ?_
 rintro e w' ⟨rfl, hb⟩
 have HB := Lib.hid hb
 clear hb
 go_wp2
 go_ret
 exact ⟨by rw [← mX]; rfl, HB.out⟩
end Go.Proofs.YthhpcjoaogmhbaaGreatDoor
end
