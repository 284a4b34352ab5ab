/- The sets of package bits: how many stand in one, and which. -/
import Derived.Test.YtgceaicokacgjaaDoorSets2
import Derived.Laws.AppendOwn
import Derived.OwnWalk
import Derived.Deep.DeepMust
namespace Go.Proofs.YtgceaicokacgjaaDoor
open Go.RowKit

/-- The numbers of a set below n, rising. -/
def elems (f : Nat → Bool) (n : Nat) : List Nat := (List.range n).filter f
theorem elems_len (f : Nat → Bool) (n : Nat) : (elems f n).length ≤ n := by
  have := List.length_filter_le f (List.range n)
  unfold elems; simpa using this
theorem elems_word (f : Nat → Bool) (k : Nat) : elems f (64 * (k + 1)) = elems f (64 * k) ++ (bitsOf (wd f k)).map (64 * k + ·) := by
  unfold elems bitsOf
  rw [Nat.mul_add, Nat.mul_one, List.range_add, List.filter_append, List.filter_map]
  congr 2
  apply List.filter_congr
  intro j hj
  have := List.mem_range.1 hj
  simp [testBit_wd, this]
theorem elems_top (f : Nat → Bool) (n m : Nat) (h : ∀ i, f i = true → i < n) (hm : n ≤ m) : elems f m = elems f n := by
  obtain ⟨d, rfl⟩ : ∃ d, m = n + d := ⟨m - n, by omega⟩
  unfold elems
  rw [List.range_add, List.filter_append]
  have : ((List.range d).map (n + ·)).filter f = [] := by
    rw [List.filter_eq_nil_iff]
    intro a ha hfa
    obtain ⟨q, _, rfl⟩ := List.mem_map.1 ha
    have := h _ hfa; omega
  rw [this, List.append_nil]

theorem len_any (p b n : Nat) (f : Nat → Bool) (w : World) (hs : SetAt w p b n f) :
    Calls Tryd.prog 11 #[.pointer (some ⟨p, 0, none⟩)] w fun e w' => e = .returned (.int .i64 ((elems f n).length : Nat)) ∧ w = w' := by
  have c1 := hs.c1
  have HS := Lib.hid hs
  have hnw := nw_le hs.small
  have HE : Hid (elems f (64 * nw n) = elems f n) := elems_top f n _ hs.low (by unfold nw; omega)
  clear hs
  go_enter Tryd.func11, Tryd.ntmps11
  go_wp2
  go_loop [2, 10] (fun v2 v10 => ∃ k : Nat, k ≤ nw n ∧ v10 = .int .i64 k ∧ v2 = .int .i64 ((elems f (64 * k)).length : Nat)) (fun _ v10 => nw n - (intOf v10).toNat)
  case atStart => exact ⟨0, by omega, rfl, rfl⟩
  case round =>
    obtain ⟨k, hk, rfl, rfl⟩ := hrel
    have hl := elems_len f (64 * k)
    by_cases hlt : k < nw n
    · have c2 := HS.out.cell hlt
      have HW := Lib.hid (elems_word f k)
      obtain ⟨q, hq⟩ : ∃ q, q = (elems f (64 * k)).length := ⟨_, rfl⟩
      rw [← hq] at hl ⊢
      have HQ := Lib.hid hq
      have hpc : pc 64 (wd f k) ≤ 64 := by
        rw [pc_eq]
        have := List.length_filter_le (wd f k).testBit (List.range 64)
        simpa using this
      clear hq
      go_wp2_with (go_at_call 32; refine (ones_any _ (wd_lt f k) _).mono ?_; rintro e w' ⟨rfl, rfl⟩)
      go_round
      case rel => exact ⟨k + 1, by omega, by go_num, by rw [HW.out, List.length_append, List.length_map, ← HQ.out, ← pc_bits]; go_num⟩
      case measure => simp [intOf]; omega
    · obtain rfl : k = nw n := by omega
      go_wp2
      go_ret
      exact ⟨by rw [← HE.out]; rfl, rfl⟩

theorem info_int : (Tryd.prog.info? 3).map (fun i => (i.zero, i.size, i.bytes)) = some (some (.int .i64 0), 1, 8) := by kernel_rfl
/-- A slice of ints of the call's own. -/
structure OwnInts (w0 w : World) (v : Value) (l : List Nat) : Prop where
  own : w.ownsRow w0.heap.size 3 1 v l.length (l.map fun i : Nat => Value.int .i64 (i : Int))
  below : Below w0.heap.size w0 w
theorem OwnInts.nil {w0 w : World} (h : Below w0.heap.size w0 w) : OwnInts w0 w (.slice none 0 0) [] := ⟨World.ownsRow_nil _ _ _ _, h⟩

theorem one_new (w : World) (v : Value) (t : TypeId) : ∀ (j : Nat) (u : Value), [v][j]? = some u → (w.alloc (.cells #[v] t)).cell? ((Addr.mk w.heap.size 0 none).add j) = some u
  | 0, u, h => by simp at h; subst h; simp [Addr.add]
  | j + 1, u, h => by simp at h
theorem one_cell (v : Value) (h : v.oneCell' = true) : ∀ u ∈ [v], u.oneCell' = true := fun u hu => by simp at hu; subst hu; exact h
def ListRel (w0 wr : World) (f : Nat → Bool) (k : Nat) (v2 : Value) (x : Nat) : Prop :=
  ∃ l, elems f (64 * (k + 1)) = l ++ (bitsOf x).map (64 * k + ·) ∧ OwnInts w0 wr v2 l

theorem list_step {w0 wr w1 : World} {f : Nat → Bool} {k x : Nat} {v2 v' : Value} {l : List Nat} (hx : x < 18446744073709551616) (h0 : x ≠ 0) (he : elems f (64 * (k + 1)) = l ++ (bitsOf x).map (64 * k + ·))
    (hb : Below w0.heap.size w0 wr) (hown : w1.ownsRow w0.heap.size 3 1 v' (l.length + 1) ((l.map fun i : Nat => Value.int .i64 (i : Int)) ++ [.int .i64 ((k : Int) * 64 + (Lib.ctz 64 x : Nat))]))
    (hg : (wr.alloc (.cells #[.int .i64 ((k : Int) * 64 + (Lib.ctz 64 x : Nat))] 3)).grownBy w1 v2.ownBlock) (hv : ∀ q, v2.ownBlock = some q → w0.heap.size ≤ q) : ListRel w0 w1 f k v' (dropLow x) := by
  refine ⟨l ++ [64 * k + Lib.ctz 64 x], ?_, ?_, ?_⟩
  · rw [he, bitsOf_step x h0 hx]; simp
  · have e : (l ++ [64 * k + Lib.ctz 64 x]).map (fun i : Nat => Value.int .i64 (i : Int)) = (l.map fun i : Nat => Value.int .i64 (i : Int)) ++ [.int .i64 ((k : Int) * 64 + (Lib.ctz 64 x : Nat))] := by
      simp only [List.map_append, List.map_cons, List.map_nil, List.append_cancel_left_eq, List.cons.injEq, Value.int.injEq, and_true, true_and]
      omega
    rw [e, List.length_append]
    exact hown
  · exact (hb.alloc hb.size _).grown hg (by simp; have := hb.size; omega) hv

set_option maxHeartbeats 1000000 in
theorem list_any (p b n : Nat) (f : Nat → Bool) (w : World) (hT : TabIn w) (hs : SetAt w p b n f) :
    Calls Tryd.prog 9 #[.pointer (some ⟨p, 0, none⟩)] w fun e w' => ∃ v, e = .returned v ∧ OwnInts w w' v (elems f n) := by
  have c1 := hs.c1
  have HS := Lib.hid hs
  have HT := Lib.hid hT
  have hnw := nw_le hs.small
  have HE : Hid (elems f (64 * nw n) = elems f n) := elems_top f n _ hs.low (by unfold nw; omega)
  obtain ⟨i0, hi, hz0, hz1, hz2⟩ := info_parts info_int
  clear hs hT
  go_enter Tryd.func9, Tryd.ntmps9
  go_wp2
  go_loopw [2, 10] (fun v2 v10 wr => ∃ k : Nat, k ≤ nw n ∧ v10 = .int .i64 k ∧ Hid (OwnInts w wr v2 (elems f (64 * k)))) (fun _ v10 _ => nw n - (intOf v10).toNat)
  case atStart => exact ⟨0, by omega, rfl, OwnInts.nil (Below.refl _ _)⟩
  case round =>
    obtain ⟨k, hk, rfl, HO⟩ := hrel
    by_cases hlt : k < nw n
    · have c2 : wr.cell? ⟨b, k, none⟩ = some (.int .u64 (wd f k)) := (HO.out.below.cell (p := ⟨b, k, none⟩) HS.out.lt.2).trans (HS.out.cell hlt)
      have HL : Hid (ListRel w wr f k u2 (wd f k)) := ⟨_, elems_word f k, HO.out⟩
      have HX : Hid (wd f k < 18446744073709551616) := wd_lt f k
      generalize wd f k = x0 at *
      obtain ⟨wo, rfl⟩ : ∃ wo : World, wo = wr := ⟨_, rfl⟩
      go_wp2
      go_loopw [2, 4] (fun v2 v4 wr => ∃ x : Nat, v4 = .int .u64 x ∧ Hid (x < 18446744073709551616) ∧ Hid (ListRel w wr f k v2 x)) (fun _ v4 _ => (intOf v4).toNat)
      case atStart => exact ⟨x0, rfl, HX, HL⟩
      case round =>
        obtain ⟨x, rfl, HX, l, he, ho⟩ := hrel
        have HEL := Lib.hid he
        have HOW := Lib.hid ho
        clear he ho
        by_cases h0 : x = 0
        · subst h0
          go_wp2
          have HN : Hid (OwnInts w wr u2 (elems f (64 * (k + 1)))) := by
            show OwnInts w wr u2 (elems f (64 * (k + 1)))
            rw [HEL.out, bitsOf_zero]; simpa using HOW.out
          refine ⟨?_, by simp [intOf]; omega⟩
          exact ⟨k + 1, by omega, by go_num, HN⟩
        · have hb0 : ((x : Int) != 0) = true := by simp; omega
          have hx1 : 0 < x := by omega
          have hc64 := (ctz_spec x h0 HX.out).choose_spec.2
          have H0 := Lib.hid h0
          have hand : bits BinOp.and IntKind.u64 (x : Int) (IntKind.u64.wrap ((x : Int) - 1)) = ((dropLow x : Nat) : Int) := by
            have hx := HX.out
            have e : IntKind.u64.wrap ((x : Int) - 1) = ((x - 1 : Nat) : Int) := by rw [IntKind.wrap_u64]; omega
            rw [e, bits_and_u64_nat x (x - 1) hx (by omega)]; rfl
          have hlen : l.length ≤ 64 * (k + 1) := by
            have h1 := elems_len f (64 * (k + 1))
            rw [HEL.out, List.length_append] at h1; omega
          have hlow := HOW.out.below.size
          clear h0
          go_wp2_with (first
            | (go_at_call 31; refine (tz_any _ HX.out H0.out _ (HT.out.keep HOW.out.below)).mono ?_; rintro e w' ⟨rfl, rfl⟩)
            | (at_builtin
               go_must (refine wpList_append_own _ rfl _ _ 22 rfl w.heap.size 3 i0 (.int .i64 0) 1 8 Tryd.underlying22 hi hz0 hz1 hz2 rfl (by decide) _ _ _ rfl (HOW.out.own.alloc _) ⟨wr.heap.size, 0, none⟩ 1 1 [.int .i64 ((k : Int) * 64 + (Lib.ctz 64 x : Nat))] rfl rfl (one_new _ _ _) (one_cell _ rfl) (by unfold maxLen; omega) (by omega) (by simp; omega) ?_)
               go_must (intro v' w1 hown1 hg1 _)
               have HW1 : Hid (ListRel w w1 f k v' (dropLow x)) := list_step HX.out H0.out HEL.out HOW.out.below hown1 hg1 (fun q hq => (HOW.out.own.lt q hq).1)
               clear hown1 hg1))
          go_roundw
          case rel => exact ⟨dropLow x, rfl, Nat.lt_trans (dropLow_lt x H0.out) HX.out, HW1⟩
          case measure => have := dropLow_lt x H0.out; simp [intOf]; omega
    · obtain rfl : k = nw n := by omega
      go_wp2
      go_ret
      exact ⟨_, rfl, by rw [← HE.out]; exact HO.out⟩
end Go.Proofs.YtgceaicokacgjaaDoor
