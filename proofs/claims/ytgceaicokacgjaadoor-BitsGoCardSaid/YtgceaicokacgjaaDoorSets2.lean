/- The sets of package bits: a word of one, how many stand in it, a new one. -/
import Derived.Test.YtgceaicokacgjaaDoorSets
namespace Go.Proofs.YtgceaicokacgjaaDoor
open Go.RowKit

/-- What of a set stands below a size. -/
def upto (g : Nat → Bool) (n q : Nat) : Bool := g q && decide (q < n)
theorem upto_low (g : Nat → Bool) (n i : Nat) (h : upto g n i = true) : i < n := by simp [upto] at h; exact h.2
theorem wd_zero_of {f : Nat → Bool} {k : Nat} (h : ∀ t, t < 64 → f (64 * k + t) = false) : wd f k = 0 := (wd_eq (by decide) (fun t ht => by simp [h t ht])).symm
theorem shifted (g : Nat → Bool) (k n o : Nat) (ho : o < 64) (e : n + o = 64 * (k + 1)) : wd g k * 2 ^ o % 18446744073709551616 / 2 ^ o = wd (upto g n) k := by
  have h1 : 18446744073709551616 = 2 ^ (64 - o) * 2 ^ o := by rw [← Nat.pow_add, show 64 - o + o = 64 from by omega]
  rw [h1, Nat.mul_mod_mul_right, Nat.mul_div_cancel _ (Nat.two_pow_pos o)]
  refine wd_eq (Nat.lt_of_le_of_lt (Nat.mod_le _ _) (wd_lt g k)) (fun t ht => ?_)
  rw [Nat.testBit_mod_two_pow, testBit_wd]
  have : (t < 64 - o) ↔ (64 * k + t < n) := by omega
  simp [upto, ht, this, Bool.and_comm]
theorem wd_upto (g : Nat → Bool) (k n : Nat) (e : 64 * (k + 1) ≤ n) : wd g k = wd (upto g n) k := wd_congr (fun t ht => by
  have : 64 * k + t < n := by omega
  simp [upto, this])

theorem word_none (k n : Int) (w : World) : Calls Tryd.prog 33 #[.pointer none, .int .i64 k, .int .i64 n] w fun e w' => e = .returned (.int .u64 (wd (fun _ => false) 0 : Nat)) ∧ w = w' := by
  have H := Lib.hid (wd_zero 0)
  go_enter Tryd.func33, Tryd.ntmps33
  go_wp2
  go_ret
  exact ⟨by rw [H.out]; rfl, rfl⟩
theorem word_any (k n pt bt m : Nat) (g : Nat → Bool) (w : World) (hs : SetAt w pt bt m g) (hk : k < nw n) (hn : n ≤ 1000000) :
    Calls Tryd.prog 33 #[.pointer (some ⟨pt, 0, none⟩), .int .i64 k, .int .i64 n] w fun e w' => e = .returned (.int .u64 (wd (upto g n) k : Nat)) ∧ w = w' := by
  have c1 := hs.c1
  have HS := Lib.hid hs
  have hk2 := nw_le hn
  have hm := nw_le hs.small
  clear hs
  have hkk : k < 15625 := by omega
  by_cases hkm : k < nw m
  · have c2 := HS.out.cell hkm
    by_cases hgt : n < 64 * (k + 1)
    · obtain ⟨o, ho⟩ : ∃ o, n + o = 64 * (k + 1) := ⟨64 * (k + 1) - n, by omega⟩
      have ho64 : o < 64 := by unfold nw at hk; omega
      have HE := Lib.hid (shifted g k n o ho64 ho)
      obtain ⟨x, hx⟩ : ∃ x, x = wd g k := ⟨_, rfl⟩
      rw [← hx] at c2
      have HX := Lib.hid hx
      have HZ : Hid (IntKind.u64.wrap ((x : Int) * 2 ^ o) / 2 ^ o = ((wd (upto g n) k : Nat) : Int)) := by
        show IntKind.u64.wrap ((x : Int) * 2 ^ o) / 2 ^ o = _
        rw [← HE.out, ← HX.out, IntKind.wrap_u64]
        simp
      have h3 : ((k : Int) + 1) * 64 - (n : Int) = (o : Int) := by omega
      have h4 : (n : Int) < ((k : Int) + 1) * 64 := by omega
      have h5 : ¬ nw m ≤ k := by omega
      clear hx
      go_enter Tryd.func33, Tryd.ntmps33
      go_wp2
      go_ret
      exact ⟨by rw [← HZ.out]; rfl, rfl⟩
    · obtain ⟨x, hx⟩ : ∃ x, x = wd g k := ⟨_, rfl⟩
      rw [← hx] at c2
      have HE : Hid (x = wd (upto g n) k) := by show x = _; rw [hx]; exact wd_upto g k n (by omega)
      clear hx
      have h4 : ((k : Int) + 1) * 64 ≤ (n : Int) := by omega
      have h5 : ¬ nw m ≤ k := by omega
      go_enter Tryd.func33, Tryd.ntmps33
      go_wp2
      go_ret
      exact ⟨by rw [← HE.out]; rfl, rfl⟩
  · have hz : wd (upto g n) k = 0 := wd_zero_of (fun t _ => by
      cases hg : g (64 * k + t) with
      | false => simp [upto, hg]
      | true =>
        have := HS.out.low _ hg
        unfold nw at hkm; omega)
    have HZ := Lib.hid hz
    have h5 : nw m ≤ k := by omega
    clear hz
    go_enter Tryd.func33, Tryd.ntmps33
    go_wp2
    go_ret
    exact ⟨by rw [HZ.out]; rfl, rfl⟩

/-! ### The library's counts -/
/-- The table of math/bits, as its initialiser lays it. -/
def TabIn (w : World) : Prop := ∀ j, j < 64 → w.cell? ⟨0, j, none⟩ = some (.int .u8 (Lib.deBruijn64tab.getD j 0))
theorem TabIn.keep {w w' : World} (h : TabIn w) (hb : Below w.heap.size w w') : TabIn w' := fun j hj => (hb.cell (p := ⟨0, j, none⟩) (by
  have := h j hj
  unfold World.cell? at this
  split at this
  · rename_i h'; exact (Array.getElem?_eq_some_iff.1 h').1
  · cases this)).trans (h j hj)

theorem tz_key (x a : Nat) (hx : x < 18446744073709551616) (hx0 : x ≠ 0) (hlow : x &&& (18446744073709551616 - x) = a) :
    IntKind.u64.wrap (bits BinOp.and IntKind.u64 (x : Int) (IntKind.u64.wrap (-(x : Int))) * 285870213051353865) / 288230376151711744 = ((a * 285870213051353865 % 18446744073709551616 / 288230376151711744 : Nat) : Int) := by
  have e1 : IntKind.u64.wrap (-(x : Int)) = ((18446744073709551616 - x : Nat) : Int) := by rw [IntKind.wrap_u64]; omega
  rw [e1, bits_and_u64_nat x _ hx (by omega), hlow, IntKind.wrap_u64]
  omega
theorem tz_core (x k idx : Nat) (w : World) (hx0 : ((x : Int) == 0) = false)
    (key : IntKind.u64.wrap (bits BinOp.and IntKind.u64 (x : Int) (IntKind.u64.wrap (-(x : Int))) * 285870213051353865) / 288230376151711744 = (idx : Int))
    (hi : idx < 64) (hk : k < 64) (hcell : w.cell? ⟨0, idx, none⟩ = some (.int .u8 k)) :
    Calls Tryd.prog 31 #[.int .u64 x] w fun e w' => e = .returned (.int .i64 k) ∧ w = w' := by
  go_enter Tryd.func31, Tryd.ntmps31
  go_wp2_with (simp only [key])
  go_ret
  exact ⟨rfl, rfl⟩
theorem tz_any (x : Nat) (hx : x < 18446744073709551616) (h0 : x ≠ 0) (w : World) (hT : TabIn w) :
    Calls Tryd.prog 31 #[.int .u64 x] w fun e w' => e = .returned (.int .i64 (Lib.ctz 64 x : Nat)) ∧ w = w' := by
  obtain ⟨hlow, hk⟩ := Lib.lowest_bit 64 x h0 hx
  obtain ⟨hi, htab⟩ := Lib.deBruijn64_at _ hk
  have hcell := hT _ hi
  rw [htab] at hcell
  exact tz_core x _ _ w (by simp; omega) (tz_key x _ hx h0 hlow) hi hk hcell

theorem wrap64_nat (z : Nat) (h : z < 9223372036854775808) : wrap64 (z : Int) = (z : Int) := by
  unfold wrap64; omega
set_option maxHeartbeats 1000000 in
theorem ones_any (x : Nat) (hx : x < 18446744073709551616) (w : World) : Calls Tryd.prog 32 #[.int .u64 x] w fun e w' => e = .returned (.int .i64 (pc 64 x : Nat)) ∧ w = w' := by
  obtain ⟨l1, l2, l3, hd, hs⟩ := ones_eq x hx
  generalize ha1 : x / 2 &&& 6148914691236517205 = a1 at *
  generalize ha2 : x &&& 6148914691236517205 = a2 at *
  generalize hy1 : a1 + a2 = y1 at *
  generalize hb1 : y1 / 4 &&& 3689348814741910323 = b1 at *
  generalize hb2 : y1 &&& 3689348814741910323 = b2 at *
  generalize hy2 : b1 + b2 = y2 at *
  generalize hy3 : (y2 / 16 + y2) &&& 1085102592571150095 = y3 at *
  obtain ⟨s0, s1, s2, s3, s4⟩ := sum_bytes y3 hd
  have p0 : 2 ^ 60 = 1152921504606846976 := by decide
  have p1 : 2 ^ 61 = 2305843009213693952 := by decide
  have p2 : 2 ^ 62 = 4611686018427387904 := by decide
  have p3 : 2 ^ 63 = 9223372036854775808 := by decide
  rw [p0] at s0; rw [p1] at s1; rw [p2] at s2; rw [p3] at s3
  generalize hz1 : y3 + y3 / 256 = z1 at *
  generalize hz2 : z1 + z1 / 65536 = z2 at *
  generalize hz3 : z2 + z2 / 4294967296 = z3 at *
  have e1 : bits BinOp.and IntKind.u64 ((x : Int) / 2) 6148914691236517205 = (a1 : Int) := by
    have := bits_and_u64_nat (x / 2) 6148914691236517205 (by omega) (by decide)
    rw [ha1] at this; exact this
  have e2 : bits BinOp.and IntKind.u64 (x : Int) 6148914691236517205 = (a2 : Int) := by
    have := bits_and_u64_nat x 6148914691236517205 hx (by decide)
    rw [ha2] at this; exact this
  have e3 : IntKind.u64.wrap ((a1 : Int) + (a2 : Int)) = (y1 : Int) := by rw [IntKind.wrap_u64]; omega
  have e4 : bits BinOp.and IntKind.u64 ((y1 : Int) / 4) 3689348814741910323 = (b1 : Int) := by
    have := bits_and_u64_nat (y1 / 4) 3689348814741910323 (by omega) (by decide)
    rw [hb1] at this; exact this
  have e5 : bits BinOp.and IntKind.u64 (y1 : Int) 3689348814741910323 = (b2 : Int) := by
    have := bits_and_u64_nat y1 3689348814741910323 l1 (by decide)
    rw [hb2] at this; exact this
  have e6 : IntKind.u64.wrap ((b1 : Int) + (b2 : Int)) = (y2 : Int) := by rw [IntKind.wrap_u64]; omega
  have e7 : IntKind.u64.wrap ((y2 : Int) / 16 + (y2 : Int)) = ((y2 / 16 + y2 : Nat) : Int) := by rw [IntKind.wrap_u64]; omega
  have e8 : bits BinOp.and IntKind.u64 ((y2 / 16 + y2 : Nat) : Int) 1085102592571150095 = (y3 : Int) := by
    have := bits_and_u64_nat (y2 / 16 + y2) 1085102592571150095 l3 (by decide)
    rw [hy3] at this; exact this
  have e9 : IntKind.u64.wrap ((y3 : Int) + (y3 : Int) / 256) = (z1 : Int) := by rw [IntKind.wrap_u64]; omega
  have e10 : IntKind.u64.wrap ((z1 : Int) + (z1 : Int) / 65536) = (z2 : Int) := by rw [IntKind.wrap_u64]; omega
  have e11 : IntKind.u64.wrap ((z2 : Int) + (z2 : Int) / 4294967296) = (z3 : Int) := by rw [IntKind.wrap_u64]; omega
  have e12 : wrap64 (z3 : Int) = (z3 : Int) := wrap64_nat z3 s3
  have e13 : bits BinOp.and IntKind.i64 (z3 : Int) 127 = ((pc 64 x : Nat) : Int) := by
    have := bits_mask .i64 63 (by decide) wraps63 7 (by decide) (z3 : Int) (Int.natCast_nonneg _) (by rw [e63]; exact Int.ofNat_lt.2 s3)
    have e : (127 : Int) = 2 ^ 7 - 1 := by decide
    rw [e, this, ← hs, ← s4]
    exact (Int.natCast_emod z3 128).symm
  have H1 := Lib.hid e1
  have H2 := Lib.hid e2
  have H3 := Lib.hid e3
  have H4 := Lib.hid e4
  have H5 := Lib.hid e5
  have H6 := Lib.hid e6
  have H7 := Lib.hid e7
  have H8 := Lib.hid e8
  have H9 := Lib.hid e9
  have H10 := Lib.hid e10
  have H11 := Lib.hid e11
  have H12 := Lib.hid e12
  have H13 := Lib.hid e13
  clear e1 e2 e3 e4 e5 e6 e7 e8 e9 e10 e11 e12 e13 ha1 ha2 hy1 hb1 hb2 hy2 hy3 hz1 hz2 hz3 s0 s1 s2 s3 s4 hd hs l1 l2 l3 p0 p1 p2 p3 hx
  go_enter Tryd.func32, Tryd.ntmps32
  go_wp2_with fail
  go_ret
  refine ⟨?_, rfl⟩
  simp only [Array.getD_eq_getD_getElem?]
  show Ending.returned (Value.int IntKind.i64 _) = _
  rw [H1.out, H2.out, H3.out, H4.out, H5.out, H6.out, H7.out, H8.out, H9.out, H10.out, H11.out, H12.out, H13.out]
end Go.Proofs.YtgceaicokacgjaaDoor
