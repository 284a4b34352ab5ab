/- A slice of ints that reads as a list. -/
import Derived.Test.YtgceaicokacgjaaDoorBasic
import Derived.Laws.AppendOwn
import Derived.BigQuiet
import Derived.Handy
namespace Go.Proofs.YtgceaicokacgjaaDoor
open Go.RowKit

theorem bdrewN {B : Nat} {a w : World} (h : Below B a w) (n : Nat) : Below B a (w.drewN n) := ⟨h.os, h.tape, h.output, h.size, h.block⟩
/-- A slice of ints reads as a list. -/
def RI (w : World) (v : Value) (l : List Int) : Prop :=
  ∃ a n cap, v = .slice a n cap ∧ l.length = n ∧ n ≤ 9223372036854775807 ∧ ∀ i x, l[i]? = some x → ∃ b off, a = some ⟨b, off, none⟩ ∧ b < w.heap.size ∧ w.cell? ⟨b, off + i, none⟩ = some (.int .i64 x)
theorem RI.below {w w' : World} {v : Value} {l : List Int} (h : RI w v l) (hb : Below w.heap.size w w') : RI w' v l := by
  obtain ⟨a, n, cap, h1, h2, h3, h4⟩ := h
  refine ⟨a, n, cap, h1, h2, h3, fun i x hx => ?_⟩
  obtain ⟨b, off, ha, hlt, hc⟩ := h4 i x hx
  exact ⟨b, off, ha, Nat.lt_of_lt_of_le hlt hb.size, (hb.cell (p := ⟨b, off + i, none⟩) hlt).trans hc⟩
theorem RI.of_own {w : World} {base : Nat} {t : TypeId} {v : Value} {n : Nat} {l : List Int} (h : w.ownsRow base t 1 v n (l.map fun i : Int => Value.int .i64 i)) : RI w v l := by
  obtain ⟨hl, h⟩ := h
  have hn : l.length = n := by simpa using hl
  rcases h with ⟨rfl, rfl⟩ | ⟨g, cap, cur, rfl, hb, hg, h1, h2, h3, h4⟩
  · exact ⟨none, 0, 0, rfl, hn, by omega, fun i x hx => by
      have : l = [] := List.eq_nil_of_length_eq_zero hn
      subst this; simp at hx⟩
  · refine ⟨some ⟨g, 0, none⟩, n, cap, rfl, hn, by unfold maxLen at h2; omega, fun i x hx => ⟨g, 0, rfl, (Array.getElem?_eq_some_iff.1 hg).1, ?_⟩⟩
    have hi : i < n := by rw [← hn]; exact (List.getElem?_eq_some_iff.1 hx).1
    have e : (cur.toList.take (n * 1))[i]? = some (.int .i64 x) := by rw [h4, List.getElem?_map, hx]; rfl
    rw [List.getElem?_take, if_pos (by omega), Array.getElem?_toList] at e
    simp [World.cell?, hg, e]
theorem RI.of_rsl {w : World} {R : List Value → Int → Prop} {v : Value} {l : List Int} (hR : ∀ cs x, R cs x → cs = [.int .i64 x]) (h : RSl 1 R w (· < w.heap.size) v l) : RI w v l := by
  obtain ⟨a, n, cap, h1, h2, h3, h4, h5⟩ := h
  refine ⟨a, n, cap, h1, h2, by unfold maxS at h4; omega, fun i x hx => ?_⟩
  obtain ⟨b, off, cs, ha, hb, hc, hr⟩ := h5 i x hx
  rw [hR _ _ hr] at hc
  exact ⟨b, off, ha, hb, by have := hc.1; rwa [Nat.mul_one] at this⟩
theorem RI.one {w : World} {g : Nat} {x : Int} (h : w.cell? ⟨g, 0, none⟩ = some (.int .i64 x)) : RI w (.slice (some ⟨g, 0, none⟩) 1 1) [x] :=
  ⟨_, 1, 1, rfl, rfl, by omega, fun i y hy => by
    cases i with
    | zero => simp at hy; subst hy; exact ⟨g, 0, rfl, cell_lt h, h⟩
    | succ i => simp at hy⟩

/-- Two lists are the same as far as the first k elements go. -/
theorem sameInts_any (w : World) (u v : Value) (l m : List Int) (hu : RI w u l) (hv : RI w v m) :
    Calls Tryd.prog 29 #[u, v] w fun e w' => e = .returned (.bool (decide (l = m))) ∧ Below w.heap.size w w' := by
  obtain ⟨a, n, cap, rfl, hn, hmax, hel⟩ := hu
  obtain ⟨a', n', cap', rfl, hn', hmax', hel'⟩ := hv
  have H := Lib.hid hel
  have H' := Lib.hid hel'
  have HN := Lib.hid hn
  have HN' := Lib.hid hn'
  clear hel hel' hn hn'
  by_cases hnn : n = n'
  · subst hnn
    go_enter Tryd.func29, Tryd.ntmps29
    go_wp2
    go_loopw [13] (fun v13 wr => ∃ k : Nat, k ≤ n ∧ v13 = .int .i64 k ∧ Hid (l.take k = m.take k) ∧ Hid (Below w.heap.size w wr)) (fun v13 _ => n - (intOf v13).toNat)
    case atStart => exact ⟨0, by omega, rfl, rfl, Below.refl _ _⟩
    case round =>
      obtain ⟨k, hk, rfl, HQ, HB⟩ := hrel
      by_cases hlt : k < n
      · obtain ⟨x, hx⟩ : ∃ x, l[k]? = some x := ⟨_, List.getElem?_eq_getElem (by rw [HN.out]; exact hlt)⟩
        obtain ⟨y, hy⟩ : ∃ y, m[k]? = some y := ⟨_, List.getElem?_eq_getElem (by rw [HN'.out]; exact hlt)⟩
        have HX := Lib.hid hx
        have HY := Lib.hid hy
        clear hx hy
        obtain ⟨b, off, rfl, hb, hc⟩ := H.out k _ HX.out
        obtain ⟨b', off', rfl, hb', hc'⟩ := H'.out k _ HY.out
        have c1 : wr.cell? ⟨b, off + k, none⟩ = some (.int .i64 x) := (HB.out.cell (p := ⟨b, off + k, none⟩) hb).trans hc
        have c2 : wr.cell? ⟨b', off' + k, none⟩ = some (.int .i64 y) := (HB.out.cell (p := ⟨b', off' + k, none⟩) hb').trans hc'
        clear hc hc' hb hb'
        have hkn : (k : Int) < (n : Int) := by omega
        by_cases hxy : x = y
        · subst hxy
          have hb1 : (x != x) = false := by simp
          go_wp2
          go_quiet (fail)
          go_wp2
          refine ⟨⟨k + 1, by omega, by go_num, ?_, ?_⟩, by simp [intOf]; omega⟩
          · show l.take (k + 1) = m.take (k + 1)
            rw [List.take_add_one, List.take_add_one, HX.out, HY.out, HQ.out]
          · exact bdrewN HB.out _
        · have hb1 : (x != y) = true := by simpa using hxy
          have HD : Hid (decide (l = m) = false) := by
            show decide (l = m) = false
            rw [decide_eq_false_iff_not]
            rintro rfl
            have := HX.out.symm.trans HY.out
            exact hxy (Option.some.inj this)
          clear hxy
          go_wp2
          go_quiet (fail)
          go_wp2
          go_ret
          exact ⟨by rw [HD.out]; rfl, bdrewN HB.out _⟩
      · obtain rfl : k = n := by omega
        have HD : Hid (decide (l = m) = true) := by
          show decide (l = m) = true
          rw [decide_eq_true_iff]
          have h := HQ.out
          rw [List.take_of_length_le (by rw [HN.out]; exact Nat.le_refl _), List.take_of_length_le (by rw [HN'.out]; exact Nat.le_refl _)] at h
          exact h
        go_wp2
        go_ret
        exact ⟨by rw [HD.out]; rfl, HB.out⟩
  · have HD : Hid (decide (l = m) = false) := by
      show decide (l = m) = false
      rw [decide_eq_false_iff_not]
      rintro rfl
      exact hnn (HN.out.symm.trans HN'.out)
    go_enter Tryd.func29, Tryd.ntmps29
    go_wp2
    all_goals go_ret
    all_goals exact ⟨by rw [HD.out]; rfl, Below.refl _ _⟩
end Go.Proofs.YtgceaicokacgjaaDoor
