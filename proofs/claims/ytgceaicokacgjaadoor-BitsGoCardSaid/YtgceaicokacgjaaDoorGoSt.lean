/- The law's helper same; the state of the law BitsGo in memory. -/
import Derived.Test.YtgceaicokacgjaaDoorRef4
import Derived.BigQuiet
namespace Go.Proofs.YtgceaicokacgjaaDoor
open Go.RowKit

theorem RefAt.ri {w : World} {p n : Nat} {f : Nat → Bool} {a : Option Addr} {k cap : Nat} (h : RefAt w p n f) (c : w.cell? ⟨p, 1, none⟩ = some (.slice a k cap)) : RI w (.slice a k cap) (intsL (elems f n)) := by
  obtain ⟨v, h1, h2⟩ := h.obj
  have c1 : w.cell? ⟨p, 1, none⟩ = some v := by simp [World.cell?, h1]
  obtain rfl := Option.some.inj (c.symm.trans c1)
  refine RI.of_own (base := 0) (t := 3) (n := (elems f n).length) ?_
  unfold intsL
  rw [List.map_map]
  exact h2
/-- A row of ints that is spoilt. -/
structure Spoil (w0 wr : World) (v : Value) (N : Nat) : Prop where
  below : Below w0.heap.size w0 wr
  row : N = 0 ∨ ∃ g cap cur, v = .slice (some ⟨g, 0, none⟩) N cap ∧ w0.heap.size ≤ g ∧ wr.heap[g]? = some (.cells cur 3 (0, 0)) ∧ N ≤ cur.size
theorem Spoil.set {w0 wr : World} {g N cap k : Nat} (h : Spoil w0 wr (.slice (some ⟨g, 0, none⟩) N cap) N) (hk : k < N) (x : Int) :
    (∃ u, wr.cell? ⟨g, k, none⟩ = some u) ∧ wr.frozen? ⟨g, k, none⟩ = false ∧ Spoil w0 (wr.setCell ⟨g, k, none⟩ (.int .i64 x)) (.slice (some ⟨g, 0, none⟩) N cap) N := by
  rcases h.row with h0 | ⟨g', cap', cur, e, hg, hc, hn⟩
  · omega
  · simp only [Value.slice.injEq, Option.some.injEq, Addr.mk.injEq, true_and, and_true] at e
    obtain ⟨rfl, rfl⟩ := e
    refine ⟨⟨cur[k]'(by omega), by simp [World.cell?, hc]⟩, by simp [World.frozen?, hc], h.below.setCell hg _, .inr ⟨g, cap, cur.setIfInBounds k (.int .i64 x), rfl, hg, ?_, by simpa using hn⟩⟩
    show (wr.heap.modify g _)[g]? = _
    rw [Array.getElem?_modify, if_pos rfl, hc]
    rfl

set_option maxHeartbeats 4000000 in
theorem same2_any (p b px n : Nat) (f : Nat → Bool) (w : World) (hT : TabIn w) (hs : SetAt w p b n f) (hx : RefAt w px n f) :
    Calls Tryd.prog 28 #[.pointer (some ⟨p, 0, none⟩), .pointer (some ⟨px, 0, none⟩)] w fun e w' => e = .returned (.bool true) ∧ Below w.heap.size w w' := by
  have HT := Lib.hid hT
  have HS := Lib.hid hs
  have HX := Lib.hid hx
  clear hT hs hx
  go_enter Tryd.func28, Tryd.ntmps28
  go_wp2_with fail
  refine (list_any _ _ _ _ _ HT.out HS.out).mono ?_
  rintro e w1 ⟨v, rfl, ho⟩
  have HB1 := Lib.hid ho.below
  have HO1 := Lib.hid ho.own
  have HX1 := Lib.hid (HX.out.below ho.below)
  obtain ⟨ax, cx, d0, d1, -, -, -, -, -, -⟩ := HX1.out.open
  clear ho
  go_wp2_with fail
  have hri : RI w1 v (intsL (elems f n)) := RI.of_own (base := w.heap.size) (t := 3) (n := (elems f n).length) (by
    unfold intsL; rw [List.map_map]; exact HO1.out)
  refine (sameInts_any _ _ _ _ _ hri (HX1.out.ri d1)).mono ?_
  have ed : decide (intsL (elems f n) = intsL (elems f n)) = true := by simp
  rw [ed]
  clear ed hri d0 d1
  rintro e w2 ⟨rfl, hb⟩
  have HB2 : Hid (Below w.heap.size w w2) := HB1.out.trans (hb.mono HB1.out.size)
  obtain ⟨N, hN⟩ : ∃ N, N = (elems f n).length := ⟨_, rfl⟩
  have HSP : ∃ a cap, v = .slice a N cap ∧ Hid (Spoil w w2 (.slice a N cap) N) := by
    have ho2 := HO1.out.kept (row := none) ⟨hb.os, hb.tape, hb.output, hb.size, fun k hk _ => hb.block k hk⟩ (by
      cases v.ownBlock with
      | none => exact .inl rfl
      | some b => exact .inr (by simp))
    rw [← hN] at ho2
    rcases ho2.2 with ⟨rfl, h0⟩ | ⟨g, cap, cur, rfl, h2, h3, h4, h5, h6, -⟩
    · exact ⟨none, 0, by rw [h0], HB2.out, .inl h0⟩
    · exact ⟨_, cap, rfl, HB2.out, .inr ⟨g, cap, cur, rfl, h2, h3, by omega⟩⟩
  obtain ⟨a, cap, rfl, HSP⟩ := HSP
  have hNl : N ≤ 1000000 := by rw [hN]; have := elems_len f n; have := HS.out.small; omega
  have HN := Lib.hid hN
  clear hb hN HO1 HX1 HB1
  go_wp2
  go_loopw [18] (fun v18 wr => ∃ k : Nat, k ≤ N ∧ v18 = .int .i64 k ∧ Hid (Spoil w wr (.slice a N cap) N)) (fun v18 _ => N - (intOf v18).toNat)
  case atStart => exact ⟨0, by omega, rfl, HSP⟩
  case round =>
    clear HSP
    obtain ⟨k, hk, rfl, HSP⟩ := hrel
    by_cases hlt : k < N
    · obtain ⟨g, rfl⟩ : ∃ g, a = some ⟨g, 0, none⟩ := by
        rcases HSP.out.row with h0 | ⟨g, cap', cur, e, -⟩
        · omega
        · simp only [Value.slice.injEq] at e
          exact ⟨g, e.1⟩
      obtain ⟨⟨u, d0⟩, d1, hsp⟩ := HSP.out.set hlt 99
      have HSP2 := Lib.hid hsp
      clear hsp
      go_wp2
      exact ⟨⟨k + 1, by omega, by go_num, HSP2⟩, by simp [intOf]; omega⟩
    · have HBR : Hid (Below w.heap.size w wr) := HSP.out.below
      have HSR := Lib.hid (HS.out.below HBR.out)
      have HXR := Lib.hid (HX.out.below HBR.out)
      obtain ⟨ax2, cx2, d0, d1, -, -, -, -, -, -⟩ := HXR.out.open
      have HL : Hid (∀ m, Calls Tryd.prog 11 #[.pointer (some ⟨p, 0, none⟩)] (wr.drewN m) fun e w' => e = .returned (.int .i64 N) ∧ ∃ m', w' = wr.drewN m') := fun m => by
        rw [HN.out]
        exact (len_any p b n f _ (HSR.out.below (bdrewN (Below.refl _ _) m))).mono fun _ _ h => ⟨h.1, m, h.2.symm⟩
      have HZ : Hid (∀ m, Calls Tryd.prog 17 #[.pointer (some ⟨p, 0, none⟩)] (wr.drewN m) fun e w' => e = .returned (.int .i64 n) ∧ ∃ m', w' = wr.drewN m') := fun m =>
        (size_any p b n f _ (HSR.out.below (bdrewN (Below.refl _ _) m))).mono fun _ _ h => ⟨h.1, m, h.2.symm⟩
      rw [← HN.out] at d1
      have x1 : ((N : Int) == (N : Int)) = true := by simp
      have x2 : ((n : Int) == (n : Int)) = true := by simp
      go_wp2
      go_quiet ((first | (go_at_call 11; exact HL.out _) | (go_at_call 17; exact HZ.out _)))
      go_wp2
      go_ret
      exact ⟨rfl, bdrewN HBR.out _⟩
end Go.Proofs.YtgceaicokacgjaaDoor
