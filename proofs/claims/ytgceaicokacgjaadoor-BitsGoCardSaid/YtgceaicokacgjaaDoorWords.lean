/- Words of bits, in plain numbers: what a set's words hold, how many bits a word has, which. -/
import Derived.Laws.Bits64b
import Derived.Laws.BitsLemmas
import Derived.Lib.TrailingZeros
namespace Go.Proofs.YtgceaicokacgjaaDoor

/-- The k-th word of a set of numbers: its bit j stands for 64 k + j. -/
def wdN (f : Nat → Bool) (k : Nat) : Nat → Nat
  | 0 => 0
  | j + 1 => 2 ^ j * (if f (64 * k + j) then 1 else 0) + wdN f k j
def wd (f : Nat → Bool) (k : Nat) : Nat := wdN f k 64

theorem wdN_lt (f : Nat → Bool) (k : Nat) : ∀ m, wdN f k m < 2 ^ m
  | 0 => by simp [wdN]
  | m + 1 => by
    have := wdN_lt f k m
    unfold wdN
    rw [Nat.pow_succ]
    split <;> omega
theorem testBit_wdN (f : Nat → Bool) (k : Nat) : ∀ m j, (wdN f k m).testBit j = (decide (j < m) && f (64 * k + j))
  | 0, j => by simp [wdN]
  | m + 1, j => by
    have ih := testBit_wdN f k m j
    unfold wdN
    rw [Nat.testBit_two_pow_mul_add _ (wdN_lt f k m), ih]
    by_cases h : j < m
    · have h' : j < m + 1 := by omega
      simp [h, h']
    · rw [if_neg h]
      by_cases e : j = m
      · subst e; cases f (64 * k + j) <;> simp
      · have h' : ¬ j < m + 1 := by omega
        have h2 : j - m ≠ 0 := by omega
        have h3 : 0 < j - m := by omega
        obtain ⟨q, hq⟩ : ∃ q, j - m = q + 1 := ⟨j - m - 1, by omega⟩
        rw [hq]
        split <;> simp [h', Nat.testBit_succ]
theorem wd_lt (f : Nat → Bool) (k : Nat) : wd f k < 18446744073709551616 := wdN_lt f k 64
theorem testBit_wd (f : Nat → Bool) (k j : Nat) : (wd f k).testBit j = (decide (j < 64) && f (64 * k + j)) := testBit_wdN f k 64 j
theorem wd_eq {f : Nat → Bool} {k x : Nat} (hx : x < 18446744073709551616) (h : ∀ j, j < 64 → x.testBit j = f (64 * k + j)) : x = wd f k := by
  apply Nat.eq_of_testBit_eq
  intro j
  rw [testBit_wd]
  by_cases hj : j < 64
  · simp [hj, h j hj]
  · simp only [hj, decide_false, Bool.false_and]
    exact Nat.testBit_lt_two_pow (Nat.lt_of_lt_of_le hx (Nat.pow_le_pow_right (n := 2) (i := 64) (by decide) (by omega)))
theorem wd_congr {f g : Nat → Bool} {k : Nat} (h : ∀ j, j < 64 → f (64 * k + j) = g (64 * k + j)) : wd f k = wd g k :=
  wd_eq (wd_lt f k) (fun j hj => by rw [testBit_wd]; simp [hj, h j hj])
theorem wd_zero (k : Nat) : wd (fun _ => false) k = 0 := (wd_eq (by decide) (fun j _ => by simp)).symm

/-! ### The lowest bit -/
theorem ctz_spec (x : Nat) (h0 : x ≠ 0) (h : x < 18446744073709551616) : ∃ m, x = 2 ^ (Lib.ctz 64 x + 1) * m + 2 ^ Lib.ctz 64 x ∧ Lib.ctz 64 x < 64 := by
  have hp : 0 < x := by omega
  obtain ⟨m, h1, h2⟩ := Lib.ctzFrom_spec 64 x hp h
  have e : Lib.ctz 64 x = Lib.ctzFrom 64 x := by unfold Lib.ctz; rw [if_neg h0]
  rw [e]
  refine ⟨m, ?_, h2⟩
  generalize Lib.ctzFrom 64 x = c at *
  rw [h1, Nat.mul_add, Nat.mul_one, Nat.pow_succ, Nat.mul_assoc]
theorem testBit_low (c m j : Nat) : (2 ^ (c + 1) * m + 2 ^ c).testBit j = if j < c + 1 then decide (c = j) else m.testBit (j - (c + 1)) := by
  rw [Nat.testBit_two_pow_mul_add _ (Nat.pow_lt_pow_right (by decide) (Nat.lt_succ_self c)), Nat.testBit_two_pow]
theorem low_gone (c m : Nat) : (2 ^ (c + 1) * m + 2 ^ c) &&& (2 ^ (c + 1) * m + 2 ^ c - 1) = 2 ^ (c + 1) * m := by
  have hp : 0 < 2 ^ c := Nat.two_pow_pos c
  have e : 2 ^ (c + 1) * m + 2 ^ c - 1 = 2 ^ (c + 1) * m + (2 ^ c - 1) := by omega
  have hlt : 2 ^ c - 1 < 2 ^ (c + 1) := by rw [Nat.pow_succ]; omega
  apply Nat.eq_of_testBit_eq
  intro j
  rw [e, Nat.testBit_and, testBit_low, Nat.testBit_two_pow_mul_add _ hlt, Nat.testBit_two_pow_mul, Nat.testBit_two_pow_sub_one]
  by_cases h : j < c + 1
  · rw [if_pos h, if_pos h]
    have h2 : ¬ j ≥ c + 1 := by omega
    have h3 : (decide (c = j) && decide (j < c)) = false := by
      by_cases e : c = j
      · subst e; simp
      · simp [e]
    simp [h2, h3]
  · rw [if_neg h, if_neg h]
    have h2 : j ≥ c + 1 := by omega
    simp [h2]
/-- The word without its lowest bit. -/
def dropLow (x : Nat) : Nat := x &&& (x - 1)
theorem dropLow_lt (x : Nat) (h0 : x ≠ 0) : dropLow x < x := by
  have : dropLow x ≤ x - 1 := Nat.and_le_right
  omega
theorem dropLow_bit (x : Nat) (h0 : x ≠ 0) (h : x < 18446744073709551616) (j : Nat) : (dropLow x).testBit j = (x.testBit j && decide (j ≠ Lib.ctz 64 x)) := by
  obtain ⟨m, hm, _⟩ := ctz_spec x h0 h
  generalize Lib.ctz 64 x = c at *
  unfold dropLow
  rw [hm, low_gone, testBit_low, Nat.testBit_two_pow_mul]
  by_cases hj : j < c + 1
  · rw [if_pos hj]
    have h2 : ¬ j ≥ c + 1 := by omega
    by_cases e : c = j
    · subst e; simp; omega
    · simp [h2, e]
  · rw [if_neg hj]
    have h2 : j ≥ c + 1 := by omega
    have h3 : j ≠ c := by omega
    simp [h2, h3]
theorem ctz_bit (x : Nat) (h0 : x ≠ 0) (h : x < 18446744073709551616) : Lib.ctz 64 x < 64 ∧ x.testBit (Lib.ctz 64 x) = true ∧ ∀ j, j < Lib.ctz 64 x → x.testBit j = false := by
  obtain ⟨m, hm, h2⟩ := ctz_spec x h0 h
  generalize Lib.ctz 64 x = c at *
  refine ⟨h2, ?_, fun j hj => ?_⟩
  · rw [hm, testBit_low]; simp
  · rw [hm, testBit_low, if_pos (by omega)]; simp; omega

theorem filter_first (p q : Nat → Bool) (c : Nat) (hc : p c = true) (hlo : ∀ j, j < c → p j = false) (hq : ∀ j, q j = (p j && decide (j ≠ c))) : ∀ n, c < n → (List.range n).filter p = c :: (List.range n).filter q
  | 0, h => by omega
  | n + 1, h => by
    rw [List.range_succ, List.filter_append, List.filter_append]
    by_cases e : c = n
    · subst e
      have h1 : (List.range c).filter p = [] := by
        rw [List.filter_eq_nil_iff]; intro a ha; simp [hlo a (List.mem_range.1 ha)]
      have h2 : (List.range c).filter q = [] := by
        rw [List.filter_eq_nil_iff]; intro a ha; simp [hq, hlo a (List.mem_range.1 ha)]
      rw [h1, h2]
      simp [hc, hq]
    · rw [filter_first p q c hc hlo hq n (by omega)]
      have : q n = p n := by rw [hq]; simp; intro _; omega
      simp [List.filter_cons, this]

/-- The places of a word's bits, rising. -/
def bitsOf (x : Nat) : List Nat := (List.range 64).filter x.testBit
theorem bitsOf_zero : bitsOf 0 = [] := by
  unfold bitsOf; rw [List.filter_eq_nil_iff]; simp
theorem bitsOf_step (x : Nat) (h0 : x ≠ 0) (h : x < 18446744073709551616) : bitsOf x = Lib.ctz 64 x :: bitsOf (dropLow x) := by
  obtain ⟨h1, h2, h3⟩ := ctz_bit x h0 h
  exact filter_first _ _ _ h2 h3 (dropLow_bit x h0 h) 64 h1

/-! ### How many bits -/
def pc : Nat → Nat → Nat
  | 0, _ => 0
  | n + 1, x => x % 2 + pc n (x / 2)
theorem pc_eq : ∀ n x, pc n x = ((List.range n).filter x.testBit).length
  | 0, _ => rfl
  | n + 1, x => by
    rw [List.range_succ_eq_map, List.filter_cons, pc, pc_eq n (x / 2), List.filter_map, ]
    have e : (x.testBit ∘ Nat.succ) = (x / 2).testBit := by funext j; simp [Nat.testBit_succ]
    rw [e]
    have h0 : x.testBit 0 = decide (x % 2 = 1) := by simp [Nat.testBit_zero]
    rw [h0]
    by_cases h : x % 2 = 1
    · simp [h]; omega
    · have : x % 2 = 0 := by omega
      simp [this]

def msk (b r : Nat) : Nat → Nat
  | 0 => 0
  | n + 1 => b * msk b r n + r
theorem and_digits (t a m r s : Nat) (hr : r < 2 ^ t) (hs : s < 2 ^ t) : (2 ^ t * a + r) &&& (2 ^ t * m + s) = 2 ^ t * (a &&& m) + (r &&& s) := by
  apply Nat.eq_of_testBit_eq
  intro j
  rw [Nat.testBit_and, Nat.testBit_two_pow_mul_add _ hr, Nat.testBit_two_pow_mul_add _ hs, Nat.testBit_two_pow_mul_add _ (Nat.and_lt_two_pow _ hs)]
  split <;> simp
/-- Sums of neighbours, digit by digit: 'n' digits of two halves of 't' bits each. -/
def halves (t : Nat) : Nat → Nat → Nat
  | 0, _ => 0
  | n + 1, x => 2 ^ (2 * t) * halves t n (x / 2 ^ (2 * t)) + (x % 2 ^ t + x / 2 ^ t % 2 ^ t)
theorem and_low (t r : Nat) : r &&& (2 ^ t - 1) = r % 2 ^ t := Nat.and_two_pow_sub_one_eq_mod r t
theorem step_halves (t : Nat) : ∀ n x, (x / 2 ^ t &&& msk (2 ^ (2 * t)) (2 ^ t - 1) n) + (x &&& msk (2 ^ (2 * t)) (2 ^ t - 1) n) = halves t n x
  | 0, x => by simp [msk, halves]
  | n + 1, x => by
    have hp : 0 < 2 ^ t := Nat.two_pow_pos t
    have h2 : 2 ^ (2 * t) = 2 ^ t * 2 ^ t := by rw [← Nat.pow_add]; congr 1; omega
    have hlt : 2 ^ t - 1 < 2 ^ (2 * t) := by
      have : 2 ^ t ≤ 2 ^ (2 * t) := Nat.pow_le_pow_right (by decide) (by omega)
      omega
    have ih := step_halves t n (x / 2 ^ (2 * t))
    unfold msk halves
    have e1 : x = 2 ^ (2 * t) * (x / 2 ^ (2 * t)) + x % 2 ^ (2 * t) := (Nat.div_add_mod _ _).symm
    have e2 : x / 2 ^ t = 2 ^ (2 * t) * (x / 2 ^ (2 * t) / 2 ^ t) + x / 2 ^ t % 2 ^ (2 * t) := by
      have := Nat.div_add_mod (x / 2 ^ t) (2 ^ (2 * t))
      rw [Nat.div_div_eq_div_mul, Nat.mul_comm (2 ^ t), ← Nat.div_div_eq_div_mul] at this
      exact this.symm
    have hm1 : x % 2 ^ (2 * t) < 2 ^ (2 * t) := Nat.mod_lt _ (Nat.two_pow_pos _)
    have hm2 : x / 2 ^ t % 2 ^ (2 * t) < 2 ^ (2 * t) := Nat.mod_lt _ (Nat.two_pow_pos _)
    have a1 : x &&& (2 ^ (2 * t) * msk (2 ^ (2 * t)) (2 ^ t - 1) n + (2 ^ t - 1)) = 2 ^ (2 * t) * (x / 2 ^ (2 * t) &&& msk (2 ^ (2 * t)) (2 ^ t - 1) n) + (x % 2 ^ (2 * t) &&& (2 ^ t - 1)) := by
      conv => lhs; rw [e1]
      rw [and_digits _ _ _ _ _ hm1 hlt]
    have a2 : x / 2 ^ t &&& (2 ^ (2 * t) * msk (2 ^ (2 * t)) (2 ^ t - 1) n + (2 ^ t - 1)) = 2 ^ (2 * t) * (x / 2 ^ (2 * t) / 2 ^ t &&& msk (2 ^ (2 * t)) (2 ^ t - 1) n) + (x / 2 ^ t % 2 ^ (2 * t) &&& (2 ^ t - 1)) := by
      conv => lhs; rw [e2]
      rw [and_digits _ _ _ _ _ hm2 hlt]
    rw [a1, a2, ← ih, and_low, and_low]
    have m1 : x % 2 ^ (2 * t) % 2 ^ t = x % 2 ^ t := Nat.mod_mod_of_dvd _ (by rw [h2]; exact Nat.dvd_mul_right _ _)
    have m2 : x / 2 ^ t % 2 ^ (2 * t) % 2 ^ t = x / 2 ^ t % 2 ^ t := Nat.mod_mod_of_dvd _ (by rw [h2]; exact Nat.dvd_mul_right _ _)
    rw [m1, m2, Nat.mul_add]
    omega

/-- The sum of the first n digits. -/
def ds (b : Nat) : Nat → Nat → Nat
  | 0, _ => 0
  | n + 1, x => x % b + ds b n (x / b)
def digsLe (b k : Nat) : Nat → Nat → Prop
  | 0, x => x = 0
  | n + 1, x => x % b ≤ k ∧ digsLe b k n (x / b)
theorem pc_ds : ∀ n x, pc n x = ds 2 n x
  | 0, _ => rfl
  | n + 1, x => by rw [pc, ds, pc_ds n]
theorem digsLe_top (b : Nat) (hb : 0 < b) : ∀ n x, x < b ^ n → digsLe b (b - 1) n x
  | 0, x, h => by simp at h; exact h
  | n + 1, x, h => ⟨by have := Nat.mod_lt x hb; omega, digsLe_top b hb n _ (by rw [Nat.div_lt_iff_lt_mul hb]; rwa [Nat.pow_succ] at h)⟩
theorem halves_ds (t k : Nat) (hk : 2 * k < 2 ^ (2 * t)) : ∀ n x, digsLe (2 ^ t) k (2 * n) x → ds (2 ^ (2 * t)) n (halves t n x) = ds (2 ^ t) (2 * n) x ∧ digsLe (2 ^ (2 * t)) (2 * k) n (halves t n x)
  | 0, x, h => ⟨rfl, rfl⟩
  | n + 1, x, h => by
    have hp : 0 < 2 ^ (2 * t) := Nat.two_pow_pos _
    have h2 : 2 ^ (2 * t) = 2 ^ t * 2 ^ t := by rw [← Nat.pow_add]; congr 1; omega
    obtain ⟨h0, h1, hr⟩ := (h : digsLe (2 ^ t) k (2 * n + 1 + 1) x)
    have e : x / 2 ^ t / 2 ^ t = x / 2 ^ (2 * t) := by rw [Nat.div_div_eq_div_mul, ← h2]
    rw [e] at hr
    obtain ⟨i1, i2⟩ := halves_ds t k hk n _ hr
    have hs : x % 2 ^ t + x / 2 ^ t % 2 ^ t < 2 ^ (2 * t) := by omega
    have m1 : halves t (n + 1) x % 2 ^ (2 * t) = x % 2 ^ t + x / 2 ^ t % 2 ^ t := by
      unfold halves; rw [Nat.mul_add_mod, Nat.mod_eq_of_lt hs]
    have m2 : halves t (n + 1) x / 2 ^ (2 * t) = halves t n (x / 2 ^ (2 * t)) := by
      rw [halves, Nat.mul_add_div hp, Nat.div_eq_of_lt hs, Nat.add_zero]
    refine ⟨?_, ?_, ?_⟩
    · show halves t (n + 1) x % 2 ^ (2 * t) + ds _ n (halves t (n + 1) x / 2 ^ (2 * t)) = x % 2 ^ t + (x / 2 ^ t % 2 ^ t + ds _ (2 * n) (x / 2 ^ t / 2 ^ t))
      rw [m1, m2, i1, e]; omega
    · show halves t (n + 1) x % 2 ^ (2 * t) ≤ _
      rw [m1]; omega
    · show digsLe _ _ n (halves t (n + 1) x / 2 ^ (2 * t))
      rw [m2]; exact i2

/-- The third step: neighbours are added before the mask; no digit is so great that one goes over. -/
theorem step_nibbles : ∀ n x, digsLe 16 4 (2 * n) x → (x / 16 + x) &&& msk 256 15 n = halves 4 n x
  | 0, x, h => by simp [msk, halves]
  | n + 1, x, h => by
    obtain ⟨h0, h1, hr⟩ := (h : digsLe 16 4 (2 * n + 1 + 1) x)
    have e : x / 16 / 16 = x / 256 := by rw [Nat.div_div_eq_div_mul]
    rw [e] at hr
    have hq : x / 256 % 16 ≤ 4 := by
      cases n with
      | zero => have : x / 256 = 0 := hr; omega
      | succ n => exact (hr : digsLe 16 4 (2 * n + 1 + 1) _).1
    have ih := step_nibbles n _ hr
    have e1 : x / 16 + x = 2 ^ 8 * (x / 256 / 16 + x / 256) + (16 * (x / 256 % 16) + x / 16 % 16 + x % 256) := by omega
    have hs : 16 * (x / 256 % 16) + x / 16 % 16 + x % 256 < 2 ^ 8 := by omega
    have e4 : (16 * (x / 256 % 16) + x / 16 % 16 + x % 256) &&& 15 = (16 * (x / 256 % 16) + x / 16 % 16 + x % 256) % 16 := and_low 4 _
    have e5 : halves 4 (n + 1) x = 256 * halves 4 n (x / 256) + (x % 16 + x / 16 % 16) := rfl
    have := and_digits 8 (x / 256 / 16 + x / 256) (msk 256 15 n) _ 15 hs (by decide)
    have e2 : msk 256 15 (n + 1) = 2 ^ 8 * msk 256 15 n + 15 := rfl
    rw [e1, e2, this, ih, e5, e4]
    omega

theorem sum_bytes (y : Nat) (h : digsLe 256 8 8 y) : y < 2 ^ 60 ∧ y + y / 256 < 2 ^ 61 ∧ y + y / 256 + (y + y / 256) / 65536 < 2 ^ 62 ∧
    y + y / 256 + (y + y / 256) / 65536 + (y + y / 256 + (y + y / 256) / 65536) / 4294967296 < 2 ^ 63 ∧
    (y + y / 256 + (y + y / 256) / 65536 + (y + y / 256 + (y + y / 256) / 65536) / 4294967296) % 128 = ds 256 8 y := by
  obtain ⟨h0, h1, h2, h3, h4, h5, h6, h7, h8⟩ := h
  simp only [ds]
  generalize e1 : y / 256 = y1 at *
  generalize e2 : y1 / 256 = y2 at *
  generalize e3 : y2 / 256 = y3 at *
  generalize e4 : y3 / 256 = y4 at *
  generalize e5 : y4 / 256 = y5 at *
  generalize e6 : y5 / 256 = y6 at *
  generalize e7 : y6 / 256 = y7 at *
  have h8' : y7 / 256 = 0 := h8
  generalize a0 : y % 256 = d0 at *
  generalize a1 : y1 % 256 = d1 at *
  generalize a2 : y2 % 256 = d2 at *
  generalize a3 : y3 % 256 = d3 at *
  generalize a4 : y4 % 256 = d4 at *
  generalize a5 : y5 % 256 = d5 at *
  generalize a6 : y6 % 256 = d6 at *
  generalize a7 : y7 % 256 = d7 at *
  have b7 : y7 = d7 := by omega
  have b6 : y6 = 256 * y7 + d6 := by omega
  have b5 : y5 = 256 * y6 + d5 := by omega
  have b4 : y4 = 256 * y5 + d4 := by omega
  have b3 : y3 = 256 * y4 + d3 := by omega
  have b2 : y2 = 256 * y3 + d2 := by omega
  have b1 : y1 = 256 * y2 + d1 := by omega
  have b0 : y = 256 * y1 + d0 := by omega
  clear e1 e2 e3 e4 e5 e6 e7 a0 a1 a2 a3 a4 a5 a6 a7 h8 h8'
  subst b7
  have c1 : (y + y1) / 65536 = y2 + y3 := by omega
  rw [c1]
  have c2 : (y + y1 + (y2 + y3)) / 4294967296 = y4 + y5 + (y6 + y7) := by omega
  rw [c2]
  refine ⟨by omega, by omega, by omega, by omega, by omega⟩

/-- What math/bits.OnesCount64 reckons. -/
theorem ones_eq (x : Nat) (hx : x < 18446744073709551616) :
    let y1 := (x / 2 &&& 6148914691236517205) + (x &&& 6148914691236517205)
    let y2 := (y1 / 4 &&& 3689348814741910323) + (y1 &&& 3689348814741910323)
    let y3 := (y2 / 16 + y2) &&& 1085102592571150095
    y1 < 18446744073709551616 ∧ y2 < 18446744073709551616 ∧ y2 / 16 + y2 < 18446744073709551616 ∧ digsLe 256 8 8 y3 ∧ ds 256 8 y3 = pc 64 x := by
  intro y1 y2 y3
  have m1 : msk (2 ^ (2 * 1)) (2 ^ 1 - 1) 32 = 6148914691236517205 := by decide +kernel
  have m2 : msk (2 ^ (2 * 2)) (2 ^ 2 - 1) 16 = 3689348814741910323 := by decide +kernel
  have m3 : msk 256 15 8 = 1085102592571150095 := by decide +kernel
  have s1 : y1 = halves 1 32 x := by have := step_halves 1 32 x; rw [m1] at this; exact this
  have s2 : y2 = halves 2 16 y1 := by have := step_halves 2 16 y1; rw [m2] at this; exact this
  obtain ⟨d1, l1⟩ := halves_ds 1 1 (by decide) 32 x (digsLe_top 2 (by decide) 64 x hx)
  rw [← s1] at d1 l1
  obtain ⟨d2, l2⟩ := halves_ds 2 2 (by decide) 16 y1 l1
  rw [← s2] at d2 l2
  have s3 : y3 = halves 4 8 y2 := by have := step_nibbles 8 y2 l2; rw [m3] at this; exact this
  obtain ⟨d3, l3⟩ := halves_ds 4 4 (by decide) 8 y2 l2
  rw [← s3] at d3 l3
  have lt : ∀ b k n x, 0 < b → k < b → digsLe b k n x → x < b ^ n := by
    intro b k n
    induction n with
    | zero => intro x hb hk h; have : x = 0 := h; subst this; simp
    | succ n ih =>
      intro x hb hk h
      have := ih _ hb hk h.2
      rw [Nat.pow_succ, ← Nat.div_lt_iff_lt_mul hb]; exact this
  refine ⟨lt 4 2 32 y1 (by decide) (by decide) l1, lt 16 4 16 y2 (by decide) (by decide) l2, ?_, l3, ?_⟩
  · have h16 : digsLe 16 4 (15 + 1) y2 := l2
    have h15 := lt 16 4 15 _ (by decide) (by decide) h16.2
    have hy : y2 % 16 ≤ 4 := h16.1
    have hz : digsLe 16 4 (14 + 1) (y2 / 16) := h16.2
    have top : ∀ n x, digsLe 16 4 n x → 15 * x ≤ 4 * (16 ^ n - 1) := by
      intro n
      induction n with
      | zero => intro x h; have : x = 0 := h; subst this; simp
      | succ n ih =>
        intro x h
        have i1 := ih _ h.2
        have i2 := h.1
        have hp : 0 < 16 ^ n := Nat.pow_pos (by decide)
        rw [Nat.pow_succ]; omega
    have := top 16 y2 l2
    omega
  · rw [d3]
    show ds 16 16 y2 = _
    have e2 : ds 16 16 y2 = ds 4 32 y1 := d2
    have e1 : ds 4 32 y1 = ds 2 64 x := d1
    rw [e2, e1, pc_ds]
theorem pc_bits (x : Nat) : pc 64 x = (bitsOf x).length := pc_eq 64 x
end Go.Proofs.YtgceaicokacgjaaDoor
