/- The reference's Over. -/
import Derived.Test.YtapdapidnnkpmaaOver
namespace Go.Proofs.Ytapdapidnnkpmaa
open Go.RowKit

set_option maxHeartbeats 4000000 in
theorem refOver_any (w : World) (v : Value) (l : List Int) (a b : Int) (hv : RI w v l) (hl : l.length ≤ 1000000) :
    Calls Try.prog 14 #[v, .int .i64 a, .int .i64 b] w fun e w' => e = .returned (.bool (overB l a b)) ∧ Below w.heap.size w w' := by
  obtain ⟨ad, n, cap, rfl, hn, hmax, hel⟩ := hv
  have H := Lib.hid hel
  have HN := Lib.hid hn
  rw [hn] at hl
  clear hel hn
  by_cases ha : a < 0
  · have HE : Hid (overB l a b = false) := by
      show overB l a b = false
      unfold overB
      rw [inB_false (.inl ha)]; rfl
    go_enter Try.func14, Try.ntmps14
    go_wp2
    go_ret
    exact ⟨by rw [HE.out]; rfl, by go_grown⟩
  by_cases ha1 : (n : Int) ≤ a
  · have HE : Hid (overB l a b = false) := by
      show overB l a b = false
      unfold overB
      rw [inB_false (.inr (by rw [HN.out]; exact ha1))]; rfl
    go_enter Try.func14, Try.ntmps14
    go_wp2
    go_ret
    exact ⟨by rw [HE.out]; rfl, by go_grown⟩
  by_cases hb : b < 0
  · have HE : Hid (overB l a b = false) := by
      show overB l a b = false
      unfold overB
      rw [overK_out (.inl hb), Bool.and_false]
    go_enter Try.func14, Try.ntmps14
    go_wp2
    go_ret
    exact ⟨by rw [HE.out]; rfl, by go_grown⟩
  by_cases hb1 : (n : Int) ≤ b
  · have HE : Hid (overB l a b = false) := by
      show overB l a b = false
      unfold overB
      rw [overK_out (.inr (by rw [HN.out]; exact hb1)), Bool.and_false]
    go_enter Try.func14, Try.ntmps14
    go_wp2
    go_ret
    exact ⟨by rw [HE.out]; rfl, by go_grown⟩
  obtain ⟨j0, rfl⟩ : ∃ j : Nat, b = j := ⟨b.toNat, by omega⟩
  have hj0 : j0 < n := by omega
  have HO : Hid (overB l a j0 = overK l a (n + 1 - 0) j0) := by
    show overB l a j0 = _
    unfold overB
    rw [inB_true (by omega) (by rw [HN.out]; omega), HN.out]; rfl
  go_enter Try.func14, Try.ntmps14
  go_wp2
  go_loopw [2, 28] (fun v2 v28 wr => ∃ (k j : Nat), k ≤ n + 1 ∧ j < n ∧ v2 = .int .i64 j ∧ v28 = .int .i64 k ∧ Hid (overB l a j0 = overK l a (n + 1 - k) j) ∧ Hid (Below w.heap.size w wr)) (fun _ v28 _ => n + 1 - (intOf v28).toNat)
  case atStart => exact ⟨0, j0, by omega, hj0, rfl, rfl, HO, Below.refl _ _⟩
  case round =>
    clear HO
    obtain ⟨k, j, hk, hj, rfl, rfl, HQ, HB⟩ := hrel
    by_cases hkn : k ≤ n
    · have e1 : n + 1 - k = (n - k) + 1 := by omega
      rw [e1] at HQ
      by_cases haj : a = j
      · subst haj
        have HE : Hid (overB l j j0 = true) := HQ.out.trans (overK_hit (by omega) (by rw [HN.out]; omega))
        clear e1
        go_wp2
        go_ret
        exact ⟨by rw [HE.out]; rfl, HB.out⟩
      · obtain ⟨x, hx⟩ : ∃ x, l[j]? = some x := ⟨_, List.getElem?_eq_getElem (by rw [HN.out]; exact hj)⟩
        obtain ⟨g, off, rfl, hg, hc⟩ := H.out j x hx
        have hc1 := (HB.out.cell (p := ⟨g, off + j, none⟩) hg).trans hc
        have HE : Hid (overB l a j0 = overK l a (n + 1 - (k + 1)) x) := by
          have e2 : n + 1 - (k + 1) = n - k := by omega
          rw [e2]
          exact HQ.out.trans (overK_up (by omega) (by rw [HN.out]; omega) haj (by simpa using hx))
        clear hx hg hc e1 HQ
        by_cases hx0 : x < 0
        · have HF : Hid (overB l a j0 = false) := HE.out.trans (overK_out (.inl hx0))
          go_wp2
          go_ret
          exact ⟨by rw [HF.out]; rfl, HB.out⟩
        · by_cases hx1 : (n : Int) ≤ x
          · have HF : Hid (overB l a j0 = false) := HE.out.trans (overK_out (.inr (by rw [HN.out]; exact hx1)))
            go_wp2
            go_ret
            exact ⟨by rw [HF.out]; rfl, HB.out⟩
          · obtain ⟨j2, rfl⟩ : ∃ j : Nat, x = j := ⟨x.toNat, by omega⟩
            have hj2 : j2 < n := by omega
            go_wp2
            exact ⟨⟨k + 1, j2, by omega, hj2, rfl, by go_num, HE, HB⟩, by simp [intOf]; omega⟩
    · have HE : Hid (overB l a j0 = false) := by
        have h := HQ.out
        have e : n + 1 - k = 0 := by omega
        rw [e] at h; exact h
      go_wp2
      go_ret
      exact ⟨by rw [HE.out]; rfl, HB.out⟩
end Go.Proofs.Ytapdapidnnkpmaa
