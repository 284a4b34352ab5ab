/- The reference's sets in memory; New, Has, Less. -/
import Derived.Test.YtgceaicokacgjaaDoorRefP
import Derived.Test.YtgceaicokacgjaaDoorOwn
import Derived.Test.YtgceaicokacgjaaDoorLives
namespace Go.Proofs.YtgceaicokacgjaaDoor
open Go.RowKit

/-- A set of the reference's lies at block p: its size, its numbers, rising, in a row of their own. -/
structure RefAt (w : World) (p n : Nat) (f : Nat → Bool) : Prop where
  obj : ∃ v, w.heap[p]? = some (.cells #[.int .i64 n, v] 37) ∧ w.ownsRow 0 3 1 v (elems f n).length ((elems f n).map fun i : Nat => Value.int .i64 (i : Int))
  small : n ≤ 1000000
  low : ∀ i, f i = true → i < n
section
variable {w w' : World} {p n : Nat} {f : Nat → Bool}
theorem RefAt.lt (h : RefAt w p n f) : p < w.heap.size := by obtain ⟨v, h1, -⟩ := h.obj; exact (Array.getElem?_eq_some_iff.1 h1).1
theorem RefAt.grown (h : RefAt w p n f) {r : Nat} (hg : w.grownBy w' (some r)) (hne : p ≠ r) (hr : ∃ cur t fr, w.heap[r]? = some (.cells cur t fr) ∧ t ≠ 3) : RefAt w' p n f := by
  obtain ⟨v, h1, h2⟩ := h.obj
  refine ⟨⟨v, (hg.block p (Array.getElem?_eq_some_iff.1 h1).1 (fun e => hne (Option.some.inj e))).trans h1, h2.kept hg ?_⟩, h.small, h.low⟩
  rcases h2.2 with ⟨e, -⟩ | ⟨g, cap, cur, e, -, hg2, -⟩
  · left; rw [e]; rfl
  · right
    rw [e]
    intro e2
    simp [Value.ownBlock] at e2
    subst e2
    obtain ⟨cur', t, fr, hr, ht⟩ := hr
    rw [hg2] at hr
    injection hr with hr
    injection hr with _ h4 _
    exact ht h4.symm
theorem RefAt.below (h : RefAt w p n f) (hb : Below w.heap.size w w') : RefAt w' p n f := by
  obtain ⟨v, h1, h2⟩ := h.obj
  refine ⟨⟨v, (hb.block p (Array.getElem?_eq_some_iff.1 h1).1).trans h1, h2.kept (row := none) ⟨hb.os, hb.tape, hb.output, hb.size, fun k hk _ => hb.block k hk⟩ ?_⟩, h.small, h.low⟩
  cases v.ownBlock with
  | none => exact .inl rfl
  | some b => exact .inr (by simp)
/-- What a walk reads. -/
theorem RefAt.open (h : RefAt w p n f) : ∃ a cap, w.cell? ⟨p, 0, none⟩ = some (.int .i64 n) ∧ w.cell? ⟨p, 1, none⟩ = some (.slice a (elems f n).length cap) ∧ w.frozen? ⟨p, 1, none⟩ = false ∧ (elems f n).length ≤ cap ∧ cap ≤ maxLen ∧
    (∀ (j x : Nat), (elems f n)[j]? = some x → ∃ g, a = some ⟨g, 0, none⟩ ∧ w.cell? ⟨g, j, none⟩ = some (.int .i64 (x : Int))) ∧ (a = none → (elems f n).length = 0 ∧ cap = 0) ∧ ∀ ad, a = some ad → ∃ g, ad = ⟨g, 0, none⟩ ∧ g < w.heap.size ∧ g ≠ p := by
  obtain ⟨v, h1, h2⟩ := h.obj
  have c0 : w.cell? ⟨p, 0, none⟩ = some (.int .i64 n) := by simp [World.cell?, h1]
  have c1 : w.cell? ⟨p, 1, none⟩ = some v := by simp [World.cell?, h1]
  have c2 : w.frozen? ⟨p, 1, none⟩ = false := by simp [World.frozen?, h1]
  have h2' := h2
  obtain ⟨h3, h4 | ⟨g, cap, cur, rfl, h5, h6, h7, h8, h9, h10⟩⟩ := h2
  · obtain ⟨rfl, h0⟩ := h4
    rw [h0]
    exact ⟨none, 0, c0, c1, c2, by omega, by unfold maxLen; omega, fun j x hj => by
      have := (List.getElem?_eq_some_iff.1 hj).1; omega, fun _ => ⟨rfl, rfl⟩, fun ad e => by cases e⟩
  · refine ⟨_, cap, c0, c1, c2, h7, h8, fun j x hj => ⟨g, rfl, ?_⟩, (fun e => by cases e), fun ad e => ⟨g, (Option.some.inj e).symm, (Array.getElem?_eq_some_iff.1 h6).1, ?_⟩⟩
    · have hl := (List.getElem?_eq_some_iff.1 hj).1
      rw [World.ownsRow.cellAt h2' j (by omega), List.getElem?_map, hj]; rfl
    · rintro rfl
      rw [h6] at h1
      injection h1 with h1
      injection h1 with _ h4 _
      exact absurd h4 (by decide)
end

theorem refNew_any (n : Int) (w : World) : Calls Tryd.prog 18 #[.int .i64 n] w fun e w' => ∃ p, e = .returned (.pointer (some ⟨p, 0, none⟩)) ∧ RefAt w' p (clampN n) (fun _ => false) ∧ w.heap.size ≤ p ∧ Below w.heap.size w w' := by
  have hE : elems (fun _ => false) (clampN n) = [] := by simp [elems]
  have HE := Lib.hid hE
  clear hE
  by_cases h0 : n < 0
  · have H : Hid ((clampN n : Int) = 0) := by show (clampN n : Int) = 0; unfold clampN; omega
    go_enter Tryd.func18, Tryd.ntmps18
    go_wp2
    go_ret
    refine ⟨w.heap.size, rfl, ⟨⟨.slice none 0 0, by rw [heap_alloc_new, H.out], ?_⟩, clampN_le n, fun i h => by cases h⟩, Nat.le_refl _, by go_grown⟩
    rw [HE.out]; exact World.ownsRow_nil _ _ _ _
  · by_cases h1 : 1000000 < n
    · have H : Hid ((clampN n : Int) = 1000000) := by show (clampN n : Int) = 1000000; unfold clampN; omega
      go_enter Tryd.func18, Tryd.ntmps18
      go_wp2
      go_ret
      refine ⟨w.heap.size, rfl, ⟨⟨.slice none 0 0, by rw [heap_alloc_new, H.out], ?_⟩, clampN_le n, fun i h => by cases h⟩, Nat.le_refl _, by go_grown⟩
      rw [HE.out]; exact World.ownsRow_nil _ _ _ _
    · have H : Hid ((clampN n : Int) = n) := by show (clampN n : Int) = n; unfold clampN; omega
      go_enter Tryd.func18, Tryd.ntmps18
      go_wp2
      go_ret
      refine ⟨w.heap.size, rfl, ⟨⟨.slice none 0 0, by rw [heap_alloc_new, H.out], ?_⟩, clampN_le n, fun i h => by cases h⟩, Nat.le_refl _, by go_grown⟩
      rw [HE.out]; exact World.ownsRow_nil _ _ _ _

theorem refHas_any (i : Int) (p n : Nat) (f : Nat → Bool) (w : World) (hs : RefAt w p n f) :
    Calls Tryd.prog 22 #[.pointer (some ⟨p, 0, none⟩), .int .i64 i] w fun e w' => e = .returned (.bool (inB f i)) ∧ w = w' := by
  have HIB := Lib.hid (inB_elems hs.low (i := i))
  obtain ⟨a, cap, -, c1, -, hc, hm, hel, -, -⟩ := hs.open
  obtain ⟨L, hL⟩ : ∃ L, L = elems f n := ⟨_, rfl⟩
  rw [← hL] at c1 hc hel HIB
  have H := Lib.hid hel
  have hln : L.length ≤ 1000000 := by rw [hL]; have := elems_len f n; have := hs.small; omega
  clear hel hs hL
  obtain ⟨N, hN⟩ : ∃ N, N = L.length := ⟨_, rfl⟩
  rw [← hN] at c1 hc hln
  have HN := Lib.hid hN
  clear hN
  go_enter Tryd.func22, Tryd.ntmps22
  go_wp2
  go_loop [14] (fun v14 => ∃ k : Nat, k ≤ N ∧ v14 = .int .i64 k ∧ Hid (∀ x ∈ L.take k, (x : Int) ≠ i)) (fun v14 => N - (intOf v14).toNat)
  case atStart => exact ⟨0, by omega, rfl, fun x hx => by simp at hx⟩
  case round =>
    obtain ⟨k, hk, rfl, HQ⟩ := hrel
    by_cases hlt : k < N
    · obtain ⟨x, hx⟩ : ∃ x, L[k]? = some x := ⟨_, List.getElem?_eq_getElem (by have := HN.out; omega)⟩
      obtain ⟨g, rfl, hcx⟩ := H.out k x hx
      by_cases hxi : (x : Int) = i
      · have hb : inB f i = true := HIB.out.2 ⟨x, List.mem_of_getElem? hx, hxi⟩
        have HB := Lib.hid hb
        subst hxi
        clear hx hb
        go_wp2
        go_ret
        exact ⟨by rw [HB.out]; rfl, rfl⟩
      · have HQ2 : Hid (∀ x ∈ L.take (k + 1), (x : Int) ≠ i) := by
          intro y hy
          rw [List.take_add_one, hx] at hy
          rcases List.mem_append.1 hy with hy | hy
          · exact HQ.out y hy
          · simp at hy; subst hy; exact hxi
        have x1 : ((x : Int) == i) = false := by simpa using hxi
        clear hx hxi HQ
        go_wp2
        go_round
        case rel => exact ⟨k + 1, by omega, by go_num, HQ2⟩
        case measure => simp [intOf]; omega
    · obtain rfl : N = k := by omega
      have hb : inB f i = false := by
        rw [Bool.eq_false_iff]
        intro h
        obtain ⟨x, hx, e⟩ := HIB.out.1 h
        have := HQ.out x (by rw [List.take_of_length_le (by rw [← HN.out]; exact Nat.le_refl _)]; exact hx)
        exact this e
      have HB := Lib.hid hb
      clear hb
      go_wp2
      go_ret
      exact ⟨by rw [HB.out]; rfl, rfl⟩
end Go.Proofs.YtgceaicokacgjaaDoor
