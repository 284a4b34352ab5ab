/- Joined by my own program, in build order: Words, Bar. -/
import Derived.Laws.Bits64b
import Derived.Laws.BitsLemmas
import Derived.Lib.TrailingZeros
import Derived.Test.YtcldeoolglhdoaaDoorY1
import Derived.WalkKit
import Derived.ProofKit
import Derived.Lib.Hide
import Derived.Handy
set_option linter.unusedVariables false
set_option linter.unusedSimpArgs false
section
namespace Go.Proofs.YtcldeoolglhdoaaDoor
def wdN (f : Nat → Bool) (k : Nat) : Nat → Nat
  | 0 => 0
  | j + 1 => 2 ^ j * (if f (64 * k + j) then 1 else 0) + wdN f k j
def wd (f : Nat → Bool) (k : Nat) : Nat := wdN f k 64
theorem wdN_lt (f : Nat → Bool) (k : Nat) : ∀ m, wdN f k m < 2 ^ m
  | 0 => by simp [wdN]
  | m + 1 => by
    have := wdN_lt f k m
    unfold wdN
    rw [Nat.pow_succ]
    split <;> omega
theorem testBit_wdN (f : Nat → Bool) (k : Nat) : ∀ m j, (wdN f k m).testBit j = (decide (j < m) && f (64 * k + j))
  | 0, j => by simp [wdN]
  | m + 1, j => by
    have ih := testBit_wdN f k m j
    unfold wdN
    rw [Nat.testBit_two_pow_mul_add _ (wdN_lt f k m), ih]
    by_cases h : j < m
    · have h' : j < m + 1 := by omega
      simp [h, h']
    · rw [if_neg h]
      by_cases e : j = m
      · subst e; cases f (64 * k + j) <;> simp
      · have h' : ¬ j < m + 1 := by omega
        have h2 : j - m ≠ 0 := by omega
        have h3 : 0 < j - m := by omega
        obtain ⟨q, hq⟩ : ∃ q, j - m = q + 1 := ⟨j - m - 1, by omega⟩
        rw [hq]
        split <;> simp [h', Nat.testBit_succ]
theorem wd_lt (f : Nat → Bool) (k : Nat) : wd f k < 18446744073709551616 := wdN_lt f k 64
theorem testBit_wd (f : Nat → Bool) (k j : Nat) : (wd f k).testBit j = (decide (j < 64) && f (64 * k + j)) := testBit_wdN f k 64 j
theorem wd_eq {f : Nat → Bool} {k x : Nat} (hx : x < 18446744073709551616) (h : ∀ j, j < 64 → x.testBit j = f (64 * k + j)) : x = wd f k := by
  apply Nat.eq_of_testBit_eq
  intro j
  rw [testBit_wd]
  by_cases hj : j < 64
  · simp [hj, h j hj]
  · simp only [hj, decide_false, Bool.false_and]
    exact Nat.testBit_lt_two_pow (Nat.lt_of_lt_of_le hx (Nat.pow_le_pow_right (n := 2) (i := 64) (by decide) (by omega)))
theorem wd_congr {f g : Nat → Bool} {k : Nat} (h : ∀ j, j < 64 → f (64 * k + j) = g (64 * k + j)) : wd f k = wd g k :=
  wd_eq (wd_lt f k) (fun j hj => by rw [testBit_wd]; simp [hj, h j hj])
theorem wd_zero (k : Nat) : wd (fun _ => false) k = 0 := (wd_eq (by decide) (fun j _ => by simp)).symm
theorem ctz_spec (x : Nat) (h0 : x ≠ 0) (h : x < 18446744073709551616) : ∃ m, x = 2 ^ (Lib.ctz 64 x + 1) * m + 2 ^ Lib.ctz 64 x ∧ Lib.ctz 64 x < 64 := by
  have hp : 0 < x := by omega
  obtain ⟨m, h1, h2⟩ := Lib.ctzFrom_spec 64 x hp h
  have e : Lib.ctz 64 x = Lib.ctzFrom 64 x := by unfold Lib.ctz; rw [if_neg h0]
  rw [e]
  refine ⟨m, ?_, h2⟩
  generalize Lib.ctzFrom 64 x = c at *
  rw [h1, Nat.mul_add, Nat.mul_one, Nat.pow_succ, Nat.mul_assoc]
theorem testBit_low (c m j : Nat) : (2 ^ (c + 1) * m + 2 ^ c).testBit j = if j < c + 1 then decide (c = j) else m.testBit (j - (c + 1)) := by
  rw [Nat.testBit_two_pow_mul_add _ (Nat.pow_lt_pow_right (by decide) (Nat.lt_succ_self c)), Nat.testBit_two_pow]
theorem low_gone (c m : Nat) : (2 ^ (c + 1) * m + 2 ^ c) &&& (2 ^ (c + 1) * m + 2 ^ c - 1) = 2 ^ (c + 1) * m := by
  have hp : 0 < 2 ^ c := Nat.two_pow_pos c
  have e : 2 ^ (c + 1) * m + 2 ^ c - 1 = 2 ^ (c + 1) * m + (2 ^ c - 1) := by omega
  have hlt : 2 ^ c - 1 < 2 ^ (c + 1) := by rw [Nat.pow_succ]; omega
  apply Nat.eq_of_testBit_eq
  intro j
  rw [e, Nat.testBit_and, testBit_low, Nat.testBit_two_pow_mul_add _ hlt, Nat.testBit_two_pow_mul, Nat.testBit_two_pow_sub_one]
  by_cases h : j < c + 1
  · rw [if_pos h, if_pos h]
    have h2 : ¬ j ≥ c + 1 := by omega
    have h3 : (decide (c = j) && decide (j < c)) = false := by
      by_cases e : c = j
      · subst e; simp
      · simp [e]
    simp [h2, h3]
  · rw [if_neg h, if_neg h]
    have h2 : j ≥ c + 1 := by omega
    simp [h2]
def dropLow (x : Nat) : Nat := x &&& (x - 1)
theorem dropLow_lt (x : Nat) (h0 : x ≠ 0) : dropLow x < x := by
  have : dropLow x ≤ x - 1 := Nat.and_le_right
  omega
theorem dropLow_bit (x : Nat) (h0 : x ≠ 0) (h : x < 18446744073709551616) (j : Nat) : (dropLow x).testBit j = (x.testBit j && decide (j ≠ Lib.ctz 64 x)) := by
  obtain ⟨m, hm, _⟩ := ctz_spec x h0 h
  generalize Lib.ctz 64 x = c at *
  unfold dropLow
  rw [hm, low_gone, testBit_low, Nat.testBit_two_pow_mul]
  by_cases hj : j < c + 1
  · rw [if_pos hj]
    have h2 : ¬ j ≥ c + 1 := by omega
    by_cases e : c = j
    · subst e; simp; omega
    · simp [h2, e]
  · rw [if_neg hj]
    have h2 : j ≥ c + 1 := by omega
    have h3 : j ≠ c := by omega
    simp [h2, h3]
theorem ctz_bit (x : Nat) (h0 : x ≠ 0) (h : x < 18446744073709551616) : Lib.ctz 64 x < 64 ∧ x.testBit (Lib.ctz 64 x) = true ∧ ∀ j, j < Lib.ctz 64 x → x.testBit j = false := by
  obtain ⟨m, hm, h2⟩ := ctz_spec x h0 h
  generalize Lib.ctz 64 x = c at *
  refine ⟨h2, ?_, fun j hj => ?_⟩
  · rw [hm, testBit_low]; simp
  · rw [hm, testBit_low, if_pos (by omega)]; simp; omega
theorem filter_first (p q : Nat → Bool) (c : Nat) (hc : p c = true) (hlo : ∀ j, j < c → p j = false) (hq : ∀ j, q j = (p j && decide (j ≠ c))) : ∀ n, c < n → (List.range n).filter p = c :: (List.range n).filter q
  | 0, h => by omega
  | n + 1, h => by
    rw [List.range_succ, List.filter_append, List.filter_append]
    by_cases e : c = n
    · subst e
      have h1 : (List.range c).filter p = [] := by
        rw [List.filter_eq_nil_iff]; intro a ha; simp [hlo a (List.mem_range.1 ha)]
      have h2 : (List.range c).filter q = [] := by
        rw [List.filter_eq_nil_iff]; intro a ha; simp [hq, hlo a (List.mem_range.1 ha)]
      rw [h1, h2]
      simp [hc, hq]
    · rw [filter_first p q c hc hlo hq n (by omega)]
      have : q n = p n := by rw [hq]; simp; intro _; omega
      simp [List.filter_cons, this]
def bitsOf (x : Nat) : List Nat := (List.range 64).filter x.testBit
theorem bitsOf_zero : bitsOf 0 = [] := by
  unfold bitsOf; rw [List.filter_eq_nil_iff]; simp
theorem bitsOf_step (x : Nat) (h0 : x ≠ 0) (h : x < 18446744073709551616) : bitsOf x = Lib.ctz 64 x :: bitsOf (dropLow x) := by
  obtain ⟨h1, h2, h3⟩ := ctz_bit x h0 h
  exact filter_first _ _ _ h2 h3 (dropLow_bit x h0 h) 64 h1
def ds (b : Nat) : Nat → Nat → Nat
  | 0, _ => 0
  | n + 1, x => x % b + ds b n (x / b)
end Go.Proofs.YtcldeoolglhdoaaDoor
end
section
set_option linter.unusedVariables false
namespace Go.Proofs.YtcldeoolglhdoaaDoor
open Go.RowKit
open V (GlobOk)
def wi (j : Nat) : Nat := j / 64
def pw (j : Nat) : Nat := 2 ^ (j % 64)
def nw (n : Nat) : Nat := (n + 63) / 64
theorem wi_lt {j n : Nat} (h : j < n) : wi j < nw n := by unfold wi nw; omega
theorem nw_le {n : Nat} (h : n ≤ 1000000) : nw n ≤ 15625 := by unfold nw; omega
theorem e63 : (2 : Int) ^ 63 = 9223372036854775808 := by decide
theorem and_pow (x k : Nat) : x &&& 2 ^ k = if x.testBit k = true then 2 ^ k else 0 := by
  apply Nat.eq_of_testBit_eq
  intro i
  rw [Nat.testBit_and, Nat.testBit_two_pow]
  by_cases h : k = i
  · subst h
    cases hx : x.testBit k
    · simp
    · simp
  · split <;> simp [h]
theorem wraps63 (n : Int) (h0 : 0 ≤ n) (h1 : n < 2 ^ 63) : IntKind.i64.wrap n = n := by
  have e : (2 : Int) ^ 63 = 9223372036854775808 := by decide
  rw [e] at h1
  rw [IntKind.wrap_i64]; omega
theorem at_any (j : Nat) (h : j < 1000000) (w : World) : Calls Tryd.prog 36 #[.int .i64 j] w fun e w' => e = .returned (.tuple #[.int .i64 (wi j : Nat), .int .u64 (pw j : Nat)]) ∧ w = w' := by
  have h1 : bits BinOp.and IntKind.i64 (j : Int) 63 = ((j % 64 : Nat) : Int) := by
    have := bits_mask .i64 63 (by decide) wraps63 6 (by decide) (j : Int) (by omega) (by rw [e63]; omega)
    have e : (63 : Int) = 2 ^ 6 - 1 := by decide
    rw [e, this]; omega
  have h2 : IntKind.u64.wrap ((j % 64 : Nat) : Int) = ((j % 64 : Nat) : Int) := by rw [IntKind.wrap_u64]; omega
  have h3 : min ((j % 64 : Nat) : Int).toNat 64 = j % 64 := by omega
  have h4 : IntKind.u64.wrap ((2 : Int) ^ (j % 64)) = ((pw j : Nat) : Int) := by
    have hlt : 2 ^ (j % 64) ≤ 2 ^ 63 := Nat.pow_le_pow_right (by decide) (by omega)
    have hc : ((2 : Int) ^ (j % 64)) = ((2 ^ (j % 64) : Nat) : Int) := by simp
    have e : 2 ^ 63 = 9223372036854775808 := by decide
    rw [e] at hlt
    rw [hc, IntKind.wrap_u64]; unfold pw
    generalize 2 ^ (j % 64) = q at *
    omega
  have h5 : (j : Int) / 64 = ((wi j : Nat) : Int) := by unfold wi; omega
  have H1 := Lib.hid h1
  have H2 := Lib.hid h2
  have H3 := Lib.hid h3
  have H4 := Lib.hid h4
  have H5 := Lib.hid h5
  clear h1 h2 h3 h4 h5
  go_enter Tryd.func36, Tryd.ntmps36
  go_wp2
  go_ret2
  refine ⟨?_, rfl⟩
  rw [H1.out, H2.out, H3.out, H4.out, H5.out]
  rfl
theorem and_pw (f : Nat → Bool) (j : Nat) : (bits BinOp.and IntKind.u64 (wd f (wi j) : Int) (pw j : Int) != 0) = f j := by
  have hp : pw j < 18446744073709551616 := by
    unfold pw
    exact Nat.lt_of_lt_of_le (Nat.pow_lt_pow_right (a := 2) (n := 64) (by decide) (by omega)) (by decide)
  rw [bits_and_u64_nat _ _ (wd_lt f _) hp]
  have hj : 64 * wi j + j % 64 = j := by unfold wi; omega
  have hb : (wd f (wi j)).testBit (j % 64) = f j := by rw [testBit_wd, hj]; simp; intro; omega
  rw [← hb]
  unfold pw
  rw [and_pow]
  have hpos : 0 < 2 ^ (j % 64) := Nat.two_pow_pos _
  cases (wd f (wi j)).testBit (j % 64)
  · simp
  · have h2 : ((2 ^ (j % 64) : Nat) : Int) ≠ 0 := by omega
    simpa using h2
theorem pw_lt (j : Nat) : pw j < 18446744073709551616 := by
  unfold pw
  exact Nat.lt_of_lt_of_le (Nat.pow_lt_pow_right (a := 2) (n := 64) (by decide) (by omega)) (by decide)
theorem pw_bit (j t : Nat) (_ht : t < 64) : (pw j).testBit t = decide (64 * wi j + t = j) := by
  unfold pw wi
  rw [Nat.testBit_two_pow]
  have : (j % 64 = t) ↔ (64 * (j / 64) + t = j) := by omega
  simp only [this]
def addF (f : Nat → Bool) (j : Nat) (q : Nat) : Bool := f q || decide (q = j)
def delF (f : Nat → Bool) (j : Nat) (q : Nat) : Bool := f q && decide (q ≠ j)
theorem or_pw (f : Nat → Bool) (j : Nat) : bits BinOp.or IntKind.u64 (wd f (wi j) : Int) (pw j : Int) = (wd (addF f j) (wi j) : Nat) := by
  rw [bits_or_u64_nat _ _ (wd_lt f _) (pw_lt j)]
  have h : wd f (wi j) ||| pw j = wd (addF f j) (wi j) := by
    refine wd_eq (Nat.or_lt_two_pow (n := 64) (wd_lt f _) (pw_lt j)) (fun t ht => ?_)
    rw [Nat.testBit_or, testBit_wd, pw_bit j t ht]
    simp [addF, ht]
  rw [h]
theorem bits_andNot_u64_nat (a b : Nat) (ha : a < 18446744073709551616) (hb : b < 18446744073709551616) :
    ∃ c : Nat, bits .andNot .u64 (a : Int) (b : Int) = (c : Int) ∧ c < 18446744073709551616 ∧ ∀ t, t < 64 → c.testBit t = (a.testBit t && !b.testBit t) := by
  have h1 : (BitVec.ofInt 64 (a : Int)).toNat = a := by
    rw [BitVec.ofInt_natCast, BitVec.toNat_ofNat]; exact Nat.mod_eq_of_lt (by omega)
  have h2 : (BitVec.ofInt 64 (b : Int)).toNat = b := by
    rw [BitVec.ofInt_natCast, BitVec.toNat_ofNat]; exact Nat.mod_eq_of_lt (by omega)
  refine ⟨(BitVec.ofInt 64 (a : Int) &&& ~~~ BitVec.ofInt 64 (b : Int)).toNat, ?_, Nat.lt_of_lt_of_le (BitVec.isLt _) (by decide), fun t ht => ?_⟩
  · show IntKind.u64.wrap ((BitVec.ofInt 64 (a : Int) &&& ~~~ BitVec.ofInt 64 (b : Int)).toNat : Int) = _
    have := (BitVec.ofInt 64 (a : Int) &&& ~~~ BitVec.ofInt 64 (b : Int)).isLt
    rw [IntKind.wrap_u64]; omega
  · rw [BitVec.testBit_toNat, BitVec.getLsbD_and, BitVec.getLsbD_not, ← BitVec.testBit_toNat, ← BitVec.testBit_toNat, h1, h2]
    simp [ht]
theorem andNot_pw (f : Nat → Bool) (j : Nat) : bits BinOp.andNot IntKind.u64 (wd f (wi j) : Int) (pw j : Int) = (wd (delF f j) (wi j) : Nat) := by
  obtain ⟨c, h1, h2, h3⟩ := bits_andNot_u64_nat _ _ (wd_lt f (wi j)) (pw_lt j)
  have h : c = wd (delF f j) (wi j) := by
    refine wd_eq h2 (fun t ht => ?_)
    rw [h3 t ht, testBit_wd, pw_bit j t ht]
    simp [delF, ht]
  rw [h1, h]
theorem wd_addF (f : Nat → Bool) (j q : Nat) (hq : q ≠ wi j) : wd (addF f j) q = wd f q := wd_congr (fun t ht => by
  have : 64 * q + t ≠ j := by unfold wi at hq; omega
  simp [addF, this])
theorem wd_delF (f : Nat → Bool) (j q : Nat) (hq : q ≠ wi j) : wd (delF f j) q = wd f q := wd_congr (fun t ht => by
  have : 64 * q + t ≠ j := by unfold wi at hq; omega
  simp [delF, this])
def upto (g : Nat → Bool) (n q : Nat) : Bool := g q && decide (q < n)
theorem shifted (g : Nat → Bool) (k n o : Nat) (ho : o < 64) (e : n + o = 64 * (k + 1)) : wd g k * 2 ^ o % 18446744073709551616 / 2 ^ o = wd (upto g n) k := by
  have h1 : 18446744073709551616 = 2 ^ (64 - o) * 2 ^ o := by rw [← Nat.pow_add, show 64 - o + o = 64 from by omega]
  rw [h1, Nat.mul_mod_mul_right, Nat.mul_div_cancel _ (Nat.two_pow_pos o)]
  refine wd_eq (Nat.lt_of_le_of_lt (Nat.mod_le _ _) (wd_lt g k)) (fun t ht => ?_)
  rw [Nat.testBit_mod_two_pow, testBit_wd]
  have : (t < 64 - o) ↔ (64 * k + t < n) := by omega
  simp [upto, ht, this, Bool.and_comm]
theorem tz_key (x a : Nat) (hx : x < 18446744073709551616) (hx0 : x ≠ 0) (hlow : x &&& (18446744073709551616 - x) = a) :
    IntKind.u64.wrap (bits BinOp.and IntKind.u64 (x : Int) (IntKind.u64.wrap (-(x : Int))) * 285870213051353865) / 288230376151711744 = ((a * 285870213051353865 % 18446744073709551616 / 288230376151711744 : Nat) : Int) := by
  have e1 : IntKind.u64.wrap (-(x : Int)) = ((18446744073709551616 - x : Nat) : Int) := by rw [IntKind.wrap_u64]; omega
  rw [e1, bits_and_u64_nat x _ hx (by omega), hlow, IntKind.wrap_u64]
  omega
theorem tz_core (x k idx : Nat) (w : World) (hx0 : ((x : Int) == 0) = false)
    (key : IntKind.u64.wrap (bits BinOp.and IntKind.u64 (x : Int) (IntKind.u64.wrap (-(x : Int))) * 285870213051353865) / 288230376151711744 = (idx : Int))
    (hi : idx < 64) (hk : k < 64) (hcell : w.cell? ⟨0, idx, none⟩ = some (.int .u8 k)) :
    Calls Tryd.prog 39 #[.int .u64 x] w fun e w' => e = .returned (.int .i64 k) ∧ w = w' := by
  go_enter Tryd.func39, Tryd.ntmps39
  go_wp2_with (simp only [key])
  go_ret
  exact ⟨rfl, rfl⟩
theorem tz_any (x : Nat) (hx : x < 18446744073709551616) (h0 : x ≠ 0) (w : World) (hT : GlobOk w) :
    Calls Tryd.prog 39 #[.int .u64 x] w fun e w' => e = .returned (.int .i64 (Lib.ctz 64 x : Nat)) ∧ w = w' := by
  obtain ⟨hlow, hk⟩ := Lib.lowest_bit 64 x h0 hx
  obtain ⟨hi, htab⟩ := Lib.deBruijn64_at _ hk
  have hcell := hT _ hi
  rw [htab] at hcell
  exact tz_core x _ _ w (by simp; omega) (tz_key x _ hx h0 hlow) hi hk hcell
def elems (f : Nat → Bool) (n : Nat) : List Nat := (List.range n).filter f
theorem elems_len (f : Nat → Bool) (n : Nat) : (elems f n).length ≤ n := by
  have := List.length_filter_le f (List.range n)
  unfold elems; simpa using this
theorem elems_word (f : Nat → Bool) (k : Nat) : elems f (64 * (k + 1)) = elems f (64 * k) ++ (bitsOf (wd f k)).map (64 * k + ·) := by
  unfold elems bitsOf
  rw [Nat.mul_add, Nat.mul_one, List.range_add, List.filter_append, List.filter_map]
  congr 2
  apply List.filter_congr
  intro j hj
  have := List.mem_range.1 hj
  simp [testBit_wd, this]
theorem elems_top (f : Nat → Bool) (n m : Nat) (h : ∀ i, f i = true → i < n) (hm : n ≤ m) : elems f m = elems f n := by
  obtain ⟨d, rfl⟩ : ∃ d, m = n + d := ⟨m - n, by omega⟩
  unfold elems
  rw [List.range_add, List.filter_append]
  have : ((List.range d).map (n + ·)).filter f = [] := by
    rw [List.filter_eq_nil_iff]
    intro a ha hfa
    obtain ⟨q, _, rfl⟩ := List.mem_map.1 ha
    have := h _ hfa; omega
  rw [this, List.append_nil]
end Go.Proofs.YtcldeoolglhdoaaDoor
end
