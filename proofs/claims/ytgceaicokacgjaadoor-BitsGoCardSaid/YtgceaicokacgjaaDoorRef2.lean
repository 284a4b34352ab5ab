/- The reference's Less, Same, Del. -/
import Derived.Test.YtgceaicokacgjaaDoorRef
namespace Go.Proofs.YtgceaicokacgjaaDoor
open Go.RowKit

theorem refLess_any (p n pt m : Nat) (f g : Nat → Bool) (w : World) (hs : RefAt w p n f) (ht : RefAt w pt m g) :
    Calls Tryd.prog 25 #[.pointer (some ⟨p, 0, none⟩), .pointer (some ⟨pt, 0, none⟩)] w fun e w' => e = .returned (.bool (subB f g n)) ∧ w = w' := by
  obtain ⟨a, cap, -, c1, cf, hc, hm, hel, -, -⟩ := hs.open
  obtain ⟨L, hL⟩ : ∃ L, L = elems f n := ⟨_, rfl⟩
  rw [← hL] at c1 hc hel
  have H := Lib.hid hel
  have hln : L.length ≤ 1000000 := by rw [hL]; have := elems_len f n; have := hs.small; omega
  have HL := Lib.hid hL
  clear hel hL
  obtain ⟨N, hN⟩ : ∃ N, N = L.length := ⟨_, rfl⟩
  rw [← hN] at c1 hc hln
  have HN := Lib.hid hN
  clear hN
  have HT := Lib.hid ht
  clear hs ht cf
  go_enter Tryd.func25, Tryd.ntmps25
  go_wp2
  go_loop [12] (fun v12 => ∃ k : Nat, k ≤ N ∧ v12 = .int .i64 k ∧ Hid (∀ x ∈ L.take k, g x = true)) (fun v12 => N - (intOf v12).toNat)
  case atStart => exact ⟨0, by omega, rfl, fun x hx => by simp at hx⟩
  case round =>
    obtain ⟨k, hk, rfl, HQ⟩ := hrel
    by_cases hlt : k < N
    · obtain ⟨x, hx⟩ : ∃ x, L[k]? = some x := ⟨_, List.getElem?_eq_getElem (by have := HN.out; omega)⟩
      obtain ⟨gb, rfl, hcx⟩ := H.out k x hx
      have HX := Lib.hid hx
      clear hx
      go_wp2_with fail
      refine (refHas_any (x : Int) _ _ _ _ HT.out).mono ?_
      have hib : inB g (x : Int) = g x := by simp [inB]
      rw [hib]
      clear hib
      rintro e w' ⟨rfl, rfl⟩
      cases hg : g x with
      | true =>
        have HQ2 : Hid (∀ x ∈ L.take (k + 1), g x = true) := by
          intro y hy
          rw [List.take_add_one, HX.out] at hy
          rcases List.mem_append.1 hy with hy | hy
          · exact HQ.out y hy
          · simp at hy; subst hy; exact hg
        clear hg
        go_wp2
        go_round
        case rel => exact ⟨k + 1, by omega, by go_num, HQ2⟩
        case measure => simp [intOf]; omega
      | false =>
        have hb : subB f g n = false := by
          rw [subB_elems, ← HL.out, Bool.eq_false_iff]
          intro h
          have := List.all_eq_true.1 h x (List.mem_of_getElem? HX.out)
          rw [hg] at this; cases this
        have HB := Lib.hid hb
        clear hg hb
        go_wp2
        go_ret
        exact ⟨by rw [HB.out]; rfl, rfl⟩
    · obtain rfl : N = k := by omega
      have hb : subB f g n = true := by
        rw [subB_elems, ← HL.out, List.all_eq_true]
        intro x hx
        exact HQ.out x (by rw [List.take_of_length_le (by rw [← HN.out]; exact Nat.le_refl _)]; exact hx)
      have HB := Lib.hid hb
      clear hb
      go_wp2
      go_ret
      exact ⟨by rw [HB.out]; rfl, rfl⟩
theorem refSame_any (p n pt m : Nat) (f g : Nat → Bool) (w : World) (hs : RefAt w p n f) (ht : RefAt w pt m g) :
    Calls Tryd.prog 27 #[.pointer (some ⟨p, 0, none⟩), .pointer (some ⟨pt, 0, none⟩)] w fun e w' => e = .returned (.bool (subB f g n && subB g f m)) ∧ w = w' := by
  have HS := Lib.hid hs
  have HT := Lib.hid ht
  clear hs ht
  go_enter Tryd.func27, Tryd.ntmps27
  go_wp2_with fail
  refine (refLess_any _ _ _ _ _ _ _ HS.out HT.out).mono ?_
  rintro e w' ⟨rfl, rfl⟩
  cases h1 : subB f g n with
  | false =>
    go_wp2
    go_ret
    exact ⟨by simp [h1], rfl⟩
  | true =>
    go_wp2_with fail
    refine (refLess_any _ _ _ _ _ _ _ HT.out HS.out).mono ?_
    rintro e w' ⟨rfl, rfl⟩
    go_wp2
    go_ret
    exact ⟨by simp [h1], rfl⟩

/-- A new list has been laid for a set. -/
theorem RefAt.store {w0 wr : World} {p n : Nat} {f f' : Nat → Bool} {v : Value} {l : List Int} (hs : RefAt w0 p n f) (hO : Own w0 wr 3 1 v l.length (l.map iI)) (hl : l = (elems f' n).map fun i : Nat => (i : Int)) (hlow : ∀ i, f' i = true → i < n) :
    RefAt (wr.setCell ⟨p, 1, none⟩ v) p n f' ∧ w0.grownBy (wr.setCell ⟨p, 1, none⟩ v) (some p) := by
  obtain ⟨v0, h1, h2⟩ := hs.obj
  have hp := hs.lt
  have h3 : wr.heap[p]? = some (.cells #[.int .i64 n, v0] 37) := (hO.below.block p hp).trans h1
  have hg : w0.grownBy (wr.setCell ⟨p, 1, none⟩ v) (some p) :=
    ⟨hO.below.os, hO.below.tape, hO.below.output, by show _ ≤ (wr.heap.modify _ _).size; rw [Array.size_modify]; exact hO.below.size, fun q hq hne => (Below.heap_setCell wr _ _ q (fun e => hne (by rw [e]))).trans (hO.below.block q hq)⟩
  refine ⟨⟨⟨v, ?_, ?_⟩, hs.small, hlow⟩, hg⟩
  · show (wr.heap.modify p _)[p]? = _
    rw [Array.getElem?_modify, if_pos rfl, h3]
    rfl
  · have ho := hO.own
    rw [hl, List.length_map, List.map_map] at ho
    have hk : (wr.setCell ⟨p, 1, none⟩ v).ownsRow w0.heap.size 3 1 v (elems f' n).length ((elems f' n).map (iI ∘ fun i : Nat => (i : Int))) := ho.kept (row := some p) ⟨rfl, rfl, rfl, by show _ ≤ (wr.heap.modify _ _).size; rw [Array.size_modify]; exact Nat.le_refl _, fun q _ hne => Below.heap_setCell wr _ _ q (fun e => hne (by rw [e]))⟩ (by
      cases hq : v.ownBlock with
      | none => exact .inl rfl
      | some b =>
        right
        have := (ho.lt b hq).1
        intro e
        have := Option.some.inj e
        omega)
    obtain ⟨k1, k2⟩ := hk
    refine ⟨k1, k2.imp id ?_⟩
    rintro ⟨g, cap, cur, e1, e2, e3⟩
    exact ⟨g, cap, cur, e1, Nat.zero_le _, e3⟩
def offJ (j : Nat) (l : List Nat) : List Nat := l.filter fun x => decide (x ≠ j)
theorem offJ_take {L : List Nat} {j k x : Nat} (hx : L[k]? = some x) : offJ j (L.take (k + 1)) = offJ j (L.take k) ++ if x = j then [] else [x] := by
  unfold offJ
  rw [List.take_add_one, hx, List.filter_append]
  by_cases h : x = j <;> simp [h]
theorem offJ_len (j : Nat) (l : List Nat) : (offJ j l).length ≤ l.length := List.length_filter_le _ _
def intsL (l : List Nat) : List Int := l.map fun i : Nat => (i : Int)

theorem refDel_any (i : Int) (p n : Nat) (f : Nat → Bool) (w : World) (hs : RefAt w p n f) :
    Calls Tryd.prog 21 #[.pointer (some ⟨p, 0, none⟩), .int .i64 i] w fun e w' => e = .returned (.bool (inB f i)) ∧ RefAt w' p n (delI f i) ∧ w.grownBy w' (some p) := by
  have HS := Lib.hid hs
  cases hib : inB f i with
  | false =>
    have HIB := Lib.hid hib
    clear hib hs
    go_enter Tryd.func21, Tryd.ntmps21
    go_wp2_with fail
    refine (refHas_any i _ _ _ _ HS.out).mono ?_
    rw [HIB.out]
    rintro e w' ⟨rfl, rfl⟩
    go_wp2
    go_ret
    exact ⟨rfl, by unfold delI; rw [HIB.out]; exact HS.out, grown_refl _ _⟩
  | true =>
    obtain ⟨j, rfl⟩ : ∃ j : Nat, i = j := ⟨i.toNat, by
      unfold inB at hib
      simp only [Bool.and_eq_true, decide_eq_true_eq] at hib
      omega⟩
    have HIB := Lib.hid hib
    obtain ⟨a, cap, -, c1, cf, hc, hm, hel, -, -⟩ := hs.open
    obtain ⟨L, hL⟩ : ∃ L, L = elems f n := ⟨_, rfl⟩
    rw [← hL] at c1 hc hel
    have H := Lib.hid hel
    have hln : L.length ≤ 1000000 := by rw [hL]; have := elems_len f n; have := hs.small; omega
    have HL := Lib.hid hL
    clear hel hL
    obtain ⟨N, hN⟩ : ∃ N, N = L.length := ⟨_, rfl⟩
    rw [← hN] at c1 hc hln
    have HN := Lib.hid hN
    clear hN
    have hpl := hs.lt
    have hNE : Hid (∀ ad, a = some ad → ∃ g, ad = ⟨g, 0, none⟩ ∧ g < w.heap.size ∧ g ≠ p) := by
      obtain ⟨a', cap', -, c1', -, -, -, -, -, h⟩ := hs.open
      have e := c1'.symm.trans c1
      simp only [Option.some.injEq, Value.slice.injEq] at e
      rw [e.1] at h; exact h
    have C1 := Lib.hid c1
    have CF := Lib.hid cf
    clear hib hs
    go_enter Tryd.func21, Tryd.ntmps21
    go_wp2_with fail
    refine (refHas_any (j : Int) _ _ _ _ HS.out).mono ?_
    rw [HIB.out]
    rintro e w' ⟨rfl, rfl⟩
    go_wp2
    clear c1 cf
    go_loopw [5, 17] (fun v5 v17 wr => ∃ k : Nat, k ≤ N ∧ v17 = .int .i64 k ∧ Hid (Own w wr 3 1 v5 (intsL (offJ j (L.take k))).length ((intsL (offJ j (L.take k))).map iI))) (fun _ v17 _ => N - (intOf v17).toNat)
    case atStart => exact ⟨0, by omega, rfl, Own.start _ _ _⟩
    case round =>
      obtain ⟨k, hk, rfl, HO⟩ := hrel
      by_cases hlt : k < N
      · obtain ⟨x, hx⟩ : ∃ x, L[k]? = some x := ⟨_, List.getElem?_eq_getElem (by have := HN.out; omega)⟩
        obtain ⟨gb, rfl, hcx⟩ := H.out k x hx
        obtain ⟨g', e', hgl, -⟩ := hNE.out _ rfl
        simp only [Addr.mk.injEq, and_true] at e'
        subst e'
        have d0 := (HO.out.below.cell (p := ⟨gb, k, none⟩) hgl).trans hcx
        have HX := Lib.hid hx
        have htk := offJ_take (j := j) hx
        have hlen : (intsL (offJ j (L.take k))).length ≤ 1000000000000 := by
          unfold intsL
          rw [List.length_map]
          have h1 := offJ_len j (L.take k)
          have h2 : (L.take k).length ≤ k := List.length_take_le _ _
          omega
        clear hx hcx hgl
        by_cases hxj : x = j
        · subst hxj
          have HT : Hid (offJ x (L.take (k + 1)) = offJ x (L.take k)) := by
            show _ = _
            rw [htk]; simp
          have x1 : ((x : Int) != (x : Int)) = false := by simp
          clear htk
          go_wp2
          exact ⟨⟨k + 1, by omega, by go_num, by rw [HT.out]; exact HO⟩, by simp [intOf]; omega⟩
        · have HT : Hid (intsL (offJ j (L.take (k + 1))) = intsL (offJ j (L.take k)) ++ [(x : Int)]) := by
            show _ = _
            rw [htk, if_neg hxj]; simp [intsL]
          have x1 : ((x : Int) != (j : Int)) = true := by simp; omega
          clear htk
          obtain ⟨a5, c5, rfl⟩ := HO.out.shape
          go_wp2_with (at_builtin; (refine push_int rfl _ _ rfl rfl HO.out rfl (by simp) hlen ?_)
                       intro g4 c4 w4 hO4 hg4 hat4
                       have HO4 := Lib.hid hO4
                       clear hO4 hg4 hat4)
          exact ⟨⟨k + 1, by omega, by go_num, by rw [HT.out]; exact HO4⟩, by simp [intOf]; omega⟩
      · obtain rfl : N = k := by omega
        obtain ⟨a5, c5, rfl⟩ := HO.out.shape
        have hst := HS.out.store HO.out (f' := delI f j) (by
          have e : delI f (j : Int) = delF f j := by unfold delI; rw [HIB.out, if_pos rfl, Int.toNat_natCast]
          rw [e, elems_del, ← HL.out, List.take_of_length_le (by rw [← HN.out]; exact Nat.le_refl _)]
          rfl) (delI_low HS.out.low _)
        have HST := Lib.hid hst
        have d0 := (HO.out.below.cell (p := ⟨p, 1, none⟩) hpl).trans C1.out
        have d1 := (HO.out.below.frozen (p := ⟨p, 1, none⟩) hpl).trans CF.out
        clear hst
        go_wp2
        go_ret
        exact ⟨rfl, HST.out⟩
end Go.Proofs.YtgceaicokacgjaaDoor
