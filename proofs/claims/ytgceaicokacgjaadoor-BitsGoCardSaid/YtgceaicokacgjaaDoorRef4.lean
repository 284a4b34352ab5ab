/- The reference's Add, Union, Meet. -/
import Derived.Test.YtgceaicokacgjaaDoorRef3
namespace Go.Proofs.YtgceaicokacgjaaDoor
open Go.RowKit

theorem refAdd_any (i : Int) (p n : Nat) (f : Nat → Bool) (w : World) (hs : RefAt w p n f) :
    Calls Tryd.prog 20 #[.pointer (some ⟨p, 0, none⟩), .int .i64 i] w fun e w' => e = .returned (.bool (canAdd f n i)) ∧ RefAt w' p n (addI f n i) ∧ w.grownBy w' (some p) := by
  cases hc : canAdd f n i with
  | false =>
    refine (refAdd_no i p n f w hs hc).mono ?_
    rintro e w' ⟨rfl, rfl⟩
    exact ⟨rfl, by unfold addI; rw [hc]; exact hs, grown_refl _ _⟩
  | true =>
    have hc2 := hc
    unfold canAdd at hc2
    simp only [Bool.and_eq_true, decide_eq_true_eq, Bool.not_eq_true'] at hc2
    obtain ⟨j, rfl⟩ : ∃ j : Nat, i = j := ⟨i.toNat, by omega⟩
    rw [Int.toNat_natCast] at hc2
    refine (refAdd_yes j p n f w hs (by omega) hc2.2).mono ?_
    rintro e w' ⟨rfl, h1, h2⟩
    refine ⟨rfl, ?_, h2⟩
    unfold addI
    rw [hc, if_pos rfl, Int.toNat_natCast]
    exact h1
theorem RefAt.objAt {w : World} {p n : Nat} {f : Nat → Bool} (h : RefAt w p n f) : ∃ cur t fr, w.heap[p]? = some (.cells cur t fr) ∧ t ≠ 3 := by
  obtain ⟨v, h1, -⟩ := h.obj
  exact ⟨_, _, _, h1, by decide⟩

theorem RefAt.listAt {w : World} {p n : Nat} {f : Nat → Bool} (h : RefAt w p n f) {g k cap : Nat} (c : w.cell? ⟨p, 1, none⟩ = some (.slice (some ⟨g, 0, none⟩) k cap)) : ∃ cur fr, w.heap[g]? = some (.cells cur 3 fr) := by
  obtain ⟨v, h1, h2⟩ := h.obj
  have c1 : w.cell? ⟨p, 1, none⟩ = some v := by simp [World.cell?, h1]
  obtain rfl := Option.some.inj (c.symm.trans c1)
  rcases h2.2 with ⟨e, -⟩ | ⟨g', cap', cur, e, -, h3, -⟩
  · cases e
  · simp only [Value.slice.injEq, Option.some.injEq, Addr.mk.injEq] at e
    rw [e.1.1]; exact ⟨cur, _, h3⟩
theorem list_ne_obj {w : World} {p n g : Nat} {f : Nat → Bool} (h : RefAt w p n f) (hg : ∃ cur fr, w.heap[g]? = some (.cells cur 3 fr)) : g ≠ p := by
  rintro rfl
  obtain ⟨cur, fr, h1⟩ := hg
  obtain ⟨cur', t, fr', h2, ht⟩ := h.objAt
  rw [h1] at h2
  injection h2 with h2
  injection h2 with _ h4 _
  exact ht h4.symm
theorem refUnion_any (p n pt m : Nat) (f g : Nat → Bool) (w : World) (hs : RefAt w p n f) (ht : RefAt w pt m g) (hne : p ≠ pt) :
    Calls Tryd.prog 23 #[.pointer (some ⟨p, 0, none⟩), .pointer (some ⟨pt, 0, none⟩)] w fun e w' => e = .returned (.bool (chg f (fun q => f q || upto g n q) n)) ∧ RefAt w' p n (fun q => f q || upto g n q) ∧ w.grownBy w' (some p) := by
  have HS := Lib.hid hs
  have HT := Lib.hid ht
  have HNE := Lib.hid hne
  have HALL := Lib.hid (uniK_all (f := f) (n := n) ht.low)
  obtain ⟨a, cap, -, c1, cf, hc, hm, hel, -, hga⟩ := ht.open
  obtain ⟨L, hL⟩ : ∃ L, L = elems g m := ⟨_, rfl⟩
  rw [← hL] at c1 hc hel
  rw [← hL] at HALL
  have H := Lib.hid hel
  have HGA := Lib.hid hga
  have hln : L.length ≤ 1000000 := by rw [hL]; have := elems_len g m; have := ht.small; omega
  obtain ⟨N, hN⟩ : ∃ N, N = L.length := ⟨_, rfl⟩
  rw [← hN] at c1 hc hln
  have HN := Lib.hid hN
  have hgb : ∀ gb, a = some ⟨gb, 0, none⟩ → gb ≠ p := fun gb e => by
    rw [e] at c1
    exact list_ne_obj hs (ht.listAt c1)
  have HGB := Lib.hid hgb
  clear hel hL hN hs ht hne cf hga hgb
  go_enter Tryd.func23, Tryd.ntmps23
  go_wp2
  clear c1
  go_loopw [5, 15] (fun v5 v15 wr => ∃ k : Nat, k ≤ N ∧ v15 = .int .i64 k ∧ v5 = .bool (chg f (uniK f n (L.take k)) n) ∧ Hid (RefAt wr p n (uniK f n (L.take k))) ∧ Hid (w.grownBy wr (some p))) (fun _ v15 _ => N - (intOf v15).toNat)
  case atStart => exact ⟨0, by omega, rfl, by rw [List.take_zero, uniK_nil, chg_refl], by rw [List.take_zero, uniK_nil]; exact HS, grown_refl _ _⟩
  case round =>
    obtain ⟨k, hk, rfl, rfl, HR, HG⟩ := hrel
    by_cases hlt : k < N
    · obtain ⟨x, hx⟩ : ∃ x, L[k]? = some x := ⟨_, List.getElem?_eq_getElem (by have := HN.out; omega)⟩
      obtain ⟨gb, rfl, hcx⟩ := H.out k x hx
      obtain ⟨g', e', hgl, hgp⟩ := HGA.out _ rfl
      simp only [Addr.mk.injEq, and_true] at e'
      subst e'
      have hgne : gb ≠ p := HGB.out _ rfl
      have d0 := (HG.out.cell_far ⟨gb, k, none⟩ hgl (by simpa using hgne)).trans hcx
      have HTK : Hid (L.take (k + 1) = L.take k ++ [x]) := by show _ = _; rw [List.take_add_one, hx]; rfl
      clear hx hcx hgl hgp hgne
      go_wp2_with fail
      refine (refAdd_any (x : Int) _ _ _ _ HR.out).mono ?_
      rw [uniK_snoc]
      cases hc : canAdd (uniK f n (L.take k)) n (x : Int) with
      | false =>
        rintro e w2 ⟨rfl, h1, h2⟩
        have HC : Hid (chg f (uniK f n (L.take (k + 1))) n = chg f (uniK f n (L.take k)) n) := by
          show _ = _
          rw [HTK.out, chg_none hc]
        have HR2 : Hid (RefAt w2 p n (uniK f n (L.take (k + 1)))) := by rw [HTK.out]; exact h1
        have HG2 : Hid (w.grownBy w2 (some p)) := grown_trans HG.out h2
        clear h1 h2 hc
        go_wp2
        exact ⟨⟨k + 1, by omega, by go_num, by rw [HC.out], HR2, HG2⟩, by simp [intOf]; omega⟩
      | true =>
        rintro e w2 ⟨rfl, h1, h2⟩
        have HC : Hid (chg f (uniK f n (L.take (k + 1))) n = true) := by
          show _ = _
          rw [HTK.out, chg_add hc]
        have HR2 : Hid (RefAt w2 p n (uniK f n (L.take (k + 1)))) := by rw [HTK.out]; exact h1
        have HG2 : Hid (w.grownBy w2 (some p)) := grown_trans HG.out h2
        clear h1 h2 hc
        go_wp2
        exact ⟨⟨k + 1, by omega, by go_num, by rw [HC.out], HR2, HG2⟩, by simp [intOf]; omega⟩
    · obtain rfl : N = k := by omega
      have HF : Hid (uniK f n (L.take N) = fun q => f q || upto g n q) := by
        show _ = _
        rw [List.take_of_length_le (by rw [← HN.out]; exact Nat.le_refl _)]; exact HALL.out
      have HR2 : Hid (RefAt wr p n (fun q => f q || upto g n q)) := by rw [← HF.out]; exact HR.out
      go_wp2
      go_ret
      exact ⟨by rw [← HF.out]; rfl, HR2.out, HG.out⟩

theorem refMeet_any (p n pt m : Nat) (f g : Nat → Bool) (w : World) (hs : RefAt w p n f) (ht : RefAt w pt m g) (hne : p ≠ pt) :
    Calls Tryd.prog 24 #[.pointer (some ⟨p, 0, none⟩), .pointer (some ⟨pt, 0, none⟩)] w fun e w' => e = .returned (.bool (chg f (fun q => f q && upto g n q) n)) ∧ RefAt w' p n (fun q => f q && upto g n q) ∧ w.grownBy w' (some p) := by
  have HS := Lib.hid hs
  have HT := Lib.hid ht
  have HNE := Lib.hid hne
  have HALL := Lib.hid (metK_all (f := f) (g := g) (n := n) hs.low)
  obtain ⟨a, cap, -, c1, cf, hc, hm, hel, -, hga⟩ := hs.open
  obtain ⟨L, hL⟩ : ∃ L, L = elems f n := ⟨_, rfl⟩
  rw [← hL] at c1 hc hel
  rw [← hL] at HALL
  have H := Lib.hid hel
  have HGA := Lib.hid hga
  have hln : L.length ≤ 1000000 := by rw [hL]; have := elems_len f n; have := hs.small; omega
  obtain ⟨N, hN⟩ : ∃ N, N = L.length := ⟨_, rfl⟩
  rw [← hN] at c1 hc hln
  have HN := Lib.hid hN
  have HLE := Lib.hid hL
  clear hel hL hN hs ht hne cf hga
  go_enter Tryd.func24, Tryd.ntmps24
  go_wp2
  clear c1
  go_loopw [5, 13] (fun v5 v13 wr => ∃ k : Nat, k ≤ N ∧ v13 = .int .i64 k ∧ v5 = .bool (chg f (metK f g (L.take k)) n) ∧ Hid (RefAt wr p n (metK f g (L.take k))) ∧ Hid (w.grownBy wr (some p))) (fun _ v13 _ => N - (intOf v13).toNat)
  case atStart => exact ⟨0, by omega, rfl, by rw [List.take_zero, metK_nil, chg_refl], by rw [List.take_zero, metK_nil]; exact HS, grown_refl _ _⟩
  case round =>
    obtain ⟨k, hk, rfl, rfl, HR, HG⟩ := hrel
    by_cases hlt : k < N
    · obtain ⟨x, hx⟩ : ∃ x, L[k]? = some x := ⟨_, List.getElem?_eq_getElem (by have := HN.out; omega)⟩
      obtain ⟨gb, rfl, hcx⟩ := H.out k x hx
      obtain ⟨g', e', hgl, hgp⟩ := HGA.out _ rfl
      simp only [Addr.mk.injEq, and_true] at e'
      subst e'
      have d0 := (HG.out.cell_far ⟨gb, k, none⟩ hgl (by simpa using hgp)).trans hcx
      have HTK : Hid (L.take (k + 1) = L.take k ++ [x]) := by show _ = _; rw [List.take_add_one, hx]; rfl
      have HXM : Hid (x ∈ elems f n) := by rw [← HLE.out]; exact List.mem_of_getElem? hx
      have HTR : Hid (RefAt wr pt m g) := HT.out.grown HG.out (Ne.symm HNE.out) HS.out.objAt
      clear hx hcx hgl hgp
      go_wp2_with fail
      refine (refHas_any (x : Int) _ _ _ _ HTR.out).mono ?_
      have hib : inB g (x : Int) = g x := by simp [inB]
      rw [hib]
      clear hib
      rintro e w' ⟨rfl, rfl⟩
      cases hg : g x with
      | true =>
        have HC : Hid (metK f g (L.take (k + 1)) = metK f g (L.take k)) := by
          show _ = _
          rw [HTK.out, metK_keep hg]
        clear hg
        go_wp2
        exact ⟨⟨k + 1, by omega, by go_num, by rw [HC.out], by rw [HC.out]; exact HR, HG⟩, by simp [intOf]; omega⟩
      | false =>
        have HC : Hid (chg f (metK f g (L.take (k + 1))) n = true) := by
          show _ = _
          rw [HTK.out, chg_del HXM.out hg]
        have HD : Hid (delI (metK f g (L.take k)) (x : Int) = metK f g (L.take (k + 1))) := by
          show _ = _
          rw [HTK.out, metK_del hg]
        clear hg
        go_wp2_with fail
        refine (refDel_any (x : Int) _ _ _ _ HR.out).mono ?_
        rw [HD.out]
        rintro e w2 ⟨rfl, h1, h2⟩
        have HR2 : Hid (RefAt w2 p n (metK f g (L.take (k + 1)))) := h1
        have HG2 : Hid (w.grownBy w2 (some p)) := grown_trans HG.out h2
        clear h1 h2
        go_wp2
        exact ⟨⟨k + 1, by omega, by go_num, by rw [HC.out], HR2, HG2⟩, by simp [intOf]; omega⟩
    · obtain rfl : N = k := by omega
      have HF : Hid (metK f g (L.take N) = fun q => f q && upto g n q) := by
        show _ = _
        rw [List.take_of_length_le (by rw [← HN.out]; exact Nat.le_refl _)]; exact HALL.out
      have HR2 : Hid (RefAt wr p n (fun q => f q && upto g n q)) := by rw [← HF.out]; exact HR.out
      go_wp2
      go_ret
      exact ⟨by rw [← HF.out]; rfl, HR2.out, HG.out⟩
end Go.Proofs.YtgceaicokacgjaaDoor
