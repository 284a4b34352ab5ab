/- dom.Over and the reference's: whether one node comes up to another. -/
import Derived.Test.YtapdapidnnkpmaaInts
import Derived.BigQuiet
import Derived.BigRegion
import Derived.WalkKit
namespace Go.Proofs.Ytapdapidnnkpmaa
open Go.RowKit

def inB (l : List Int) (b : Int) : Bool := decide (0 ≤ b) && decide (b < l.length)
/-- Up from b, at most k steps. -/
def overK (l : List Int) (a : Int) : Nat → Int → Bool
  | 0, _ => false
  | k + 1, b => if inB l b then (if a = b then true else overK l a k (l.getD b.toNat 0)) else false
def overB (l : List Int) (a b : Int) : Bool := inB l a && overK l a (l.length + 1) b
theorem inB_false {l : List Int} {b : Int} (h : b < 0 ∨ (l.length : Int) ≤ b) : inB l b = false := by
  unfold inB
  simp only [Bool.and_eq_false_iff, decide_eq_false_iff_not]; omega
theorem inB_true {l : List Int} {b : Int} (h0 : 0 ≤ b) (h1 : b < l.length) : inB l b = true := by
  unfold inB
  simp only [Bool.and_eq_true, decide_eq_true_eq]; omega
theorem overK_out {l : List Int} {a b : Int} {k : Nat} (h : b < 0 ∨ (l.length : Int) ≤ b) : overK l a k b = false := by
  cases k with
  | zero => rfl
  | succ k => unfold overK; rw [inB_false h]; rfl
theorem overK_hit {l : List Int} {b : Int} {k : Nat} (h0 : 0 ≤ b) (h1 : b < l.length) : overK l b (k + 1) b = true := by
  unfold overK; rw [inB_true h0 h1]; simp
theorem overK_up {l : List Int} {a b x : Int} {k : Nat} (h0 : 0 ≤ b) (h1 : b < l.length) (hne : a ≠ b) (hx : l[b.toNat]? = some x) : overK l a (k + 1) b = overK l a k x := by
  conv => lhs; unfold overK
  rw [inB_true h0 h1, if_pos rfl, if_neg hne, List.getD_eq_getElem?_getD, hx]; rfl

set_option maxHeartbeats 4000000 in
theorem domOver_any (w : World) (v : Value) (l : List Int) (a b : Int) (hv : RI w v l) (hl : l.length ≤ 1000000) :
    Calls Try.prog 13 #[v, .int .i64 a, .int .i64 b] w fun e w' => e = .returned (.bool (overB l a b)) ∧ Below w.heap.size w w' := by
  obtain ⟨ad, n, cap, rfl, hn, hmax, hel⟩ := hv
  have H := Lib.hid hel
  have HN := Lib.hid hn
  rw [hn] at hl
  clear hel hn
  by_cases hab : 0 ≤ a ∧ a < n ∧ 0 ≤ b ∧ b < n
  · obtain ⟨ha0, ha1, hb0, hb1⟩ := hab
    have HO : Hid (overB l a b = overK l a (n + 1 - 0) b) := by
      show overB l a b = _
      unfold overB
      rw [inB_true ha0 (by rw [HN.out]; exact ha1), HN.out]; rfl
    go_enter Try.func13, Try.ntmps13
    go_wp2
    all_goals
      go_loopw [2, 7] (fun v2 v7 wr => ∃ (k : Nat) (b' : Int), k ≤ n + 1 ∧ v2 = .int .i64 b' ∧ v7 = .int .i64 k ∧ Hid (overB l a b = overK l a (n + 1 - k) b') ∧ Hid (Below w.heap.size w wr)) (fun _ v7 _ => n + 1 - (intOf v7).toNat)
      case atStart => exact ⟨0, b, by omega, rfl, rfl, HO, Below.refl _ _⟩
      case round =>
        obtain ⟨k, b', hk, rfl, rfl, HQ, HB⟩ := hrel
        by_cases hkn : k ≤ n
        · by_cases hb0' : b' < 0
          · have HE : Hid (overB l a b = false) := HQ.out.trans (overK_out (.inl hb0'))
            go_wp2
            go_ret
            exact ⟨by rw [HE.out]; rfl, HB.out⟩
          · by_cases hb1' : (n : Int) ≤ b'
            · have HE : Hid (overB l a b = false) := HQ.out.trans (overK_out (.inr (by rw [HN.out]; exact hb1')))
              go_wp2
              go_ret
              exact ⟨by rw [HE.out]; rfl, HB.out⟩
            · obtain ⟨j, rfl⟩ : ∃ j : Nat, b' = j := ⟨b'.toNat, by omega⟩
              have hj : j < n := by omega
              have e1 : n + 1 - k = (n - k) + 1 := by omega
              rw [e1] at HQ
              by_cases haj : a = j
              · subst haj
                have HE : Hid (overB l j b = true) := HQ.out.trans (overK_hit (by omega) (by rw [HN.out]; omega))
                clear e1
                go_wp2
                go_ret
                exact ⟨by rw [HE.out]; rfl, HB.out⟩
              · obtain ⟨x, hx⟩ : ∃ x, l[j]? = some x := ⟨_, List.getElem?_eq_getElem (by rw [HN.out]; exact hj)⟩
                obtain ⟨g, off, rfl, hg, hc⟩ := H.out j x hx
                have hc1 := (HB.out.cell (p := ⟨g, off + j, none⟩) hg).trans hc
                have HE : Hid (overB l a b = overK l a (n + 1 - (k + 1)) x) := by
                  have e2 : n + 1 - (k + 1) = n - k := by omega
                  rw [e2]
                  exact HQ.out.trans (overK_up (by omega) (by rw [HN.out]; omega) haj (by simpa using hx))
                clear hx hg hc e1 HQ
                go_wp2
                exact ⟨⟨k + 1, x, by omega, rfl, by go_num, HE, HB⟩, by simp [intOf]; omega⟩
        · have HE : Hid (overB l a b = false) := by
            have h := HQ.out
            have e : n + 1 - k = 0 := by omega
            rw [e] at h; exact h
          go_wp2
          go_ret
          exact ⟨by rw [HE.out]; rfl, HB.out⟩
  · have HE : Hid (overB l a b = false) := by
      show overB l a b = false
      unfold overB
      by_cases ha : a < 0 ∨ (n : Int) ≤ a
      · rw [inB_false (by rw [HN.out]; exact ha)]; rfl
      · rw [overK_out (by rw [HN.out]; omega), Bool.and_false]
    go_enter Try.func13, Try.ntmps13
    go_wp2
    all_goals
      go_ret
      exact ⟨by rw [HE.out]; rfl, by go_grown⟩
end Go.Proofs.Ytapdapidnnkpmaa
