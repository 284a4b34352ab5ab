/- The sets of package bits: how one lies in memory, and what each of its functions does. -/
import Derived.Test.YtgceaicokacgjaaDoorChecked
import Derived.Test.YtgceaicokacgjaaDoorWords
import Derived.WalkKit
import Derived.ProofKit
import Derived.Lib.Hide
import Derived.Handy
import Derived.Laws.MakeOwn
import Derived.Deep.QuietTactic
import Derived.BigQuiet
import Derived.StillTailTactics
namespace Go.Proofs.YtgceaicokacgjaaDoor
open Go.RowKit

def wi (j : Nat) : Nat := j / 64
def pw (j : Nat) : Nat := 2 ^ (j % 64)
def nw (n : Nat) : Nat := (n + 63) / 64
theorem wi_lt {j n : Nat} (h : j < n) : wi j < nw n := by unfold wi nw; omega
theorem nw_le {n : Nat} (h : n ≤ 1000000) : nw n ≤ 15625 := by unfold nw; omega

/-- The words of a set as they lie in memory. -/
def wordsArr (f : Nat → Bool) (n : Nat) : Array Value := ((List.range n).map fun k => Value.int .u64 (wd f k)).toArray
theorem wordsArr_size (f : Nat → Bool) (n : Nat) : (wordsArr f n).size = n := by simp [wordsArr]
theorem wordsArr_get (f : Nat → Bool) (n k : Nat) (h : k < n) : (wordsArr f n)[k]? = some (.int .u64 (wd f k)) := by
  simp [wordsArr, h]

theorem wordsArr_set (f f' : Nat → Bool) (n k : Nat) (hsame : ∀ q, q ≠ k → wd f' q = wd f q) : (wordsArr f n).setIfInBounds k (.int .u64 (wd f' k)) = wordsArr f' n := by
  apply Array.ext_getElem?
  intro q
  rw [Array.getElem?_setIfInBounds]
  by_cases hq : q < n
  · by_cases e : k = q
    · subst e; rw [if_pos rfl, if_pos (by rw [wordsArr_size]; exact hq), wordsArr_get f' n k hq]
    · rw [if_neg e, wordsArr_get f n q hq, wordsArr_get f' n q hq, hsame q (fun e' => e e'.symm)]
  · have h1 : (wordsArr f n)[q]? = none := Array.getElem?_eq_none (by rw [wordsArr_size]; omega)
    have h2 : (wordsArr f' n)[q]? = none := Array.getElem?_eq_none (by rw [wordsArr_size]; omega)
    rw [h1, h2]
    split
    · split
      · rename_i h3 h4; rw [wordsArr_size] at h4; omega
      · rfl
    · rfl

/-- A set lies in memory: its object at block p, its words at block b; it goes up to n; f tells what is in. -/
structure SetAt (w : World) (p b n : Nat) (f : Nat → Bool) : Prop where
  obj : w.heap[p]? = some (.cells #[.int .i64 n, .slice (some ⟨b, 0, none⟩) (nw n) (nw n)] 50)
  row : w.heap[b]? = some (.cells (wordsArr f (nw n)) 45)
  small : n ≤ 1000000
  low : ∀ i, f i = true → i < n

theorem SetAt.keep {w w' : World} {p b n : Nat} {f : Nat → Bool} (h : SetAt w p b n f) (hp : w'.heap[p]? = w.heap[p]?) (hb : w'.heap[b]? = w.heap[b]?) : SetAt w' p b n f :=
  ⟨hp.trans h.obj, hb.trans h.row, h.small, h.low⟩
theorem SetAt.lt {w : World} {p b n : Nat} {f : Nat → Bool} (h : SetAt w p b n f) : p < w.heap.size ∧ b < w.heap.size :=
  ⟨(Array.getElem?_eq_some_iff.1 h.obj).1, (Array.getElem?_eq_some_iff.1 h.row).1⟩
theorem SetAt.ne {w : World} {p b n : Nat} {f : Nat → Bool} (h : SetAt w p b n f) : p ≠ b := by
  rintro rfl
  have h1 : w.cell? ⟨p, 1, none⟩ = some (.slice (some ⟨p, 0, none⟩) (nw n) (nw n)) := by simp [World.cell?, h.obj]
  have h2 : w.cell? ⟨p, 1, none⟩ = (wordsArr f (nw n))[1]? := by simp [World.cell?, h.row]
  rw [h1] at h2
  by_cases hk : 1 < nw n
  · rw [wordsArr_get f _ _ hk] at h2; cases h2
  · rw [Array.getElem?_eq_none (by rw [wordsArr_size]; omega)] at h2; cases h2
theorem SetAt.c0 {w : World} {p b n : Nat} {f : Nat → Bool} (h : SetAt w p b n f) : w.cell? ⟨p, 0, none⟩ = some (.int .i64 n) := by simp [World.cell?, h.obj]
theorem SetAt.c1 {w : World} {p b n : Nat} {f : Nat → Bool} (h : SetAt w p b n f) : w.cell? ⟨p, 1, none⟩ = some (.slice (some ⟨b, 0, none⟩) (nw n) (nw n)) := by simp [World.cell?, h.obj]
theorem SetAt.cell {w : World} {p b n : Nat} {f : Nat → Bool} (h : SetAt w p b n f) {k : Nat} (hk : k < nw n) : w.cell? ⟨b, k, none⟩ = some (.int .u64 (wd f k)) := by
  simp [World.cell?, h.row, wordsArr_get f _ _ hk]
theorem SetAt.free {w : World} {p b n : Nat} {f : Nat → Bool} (h : SetAt w p b n f) (k : Nat) : w.frozen? ⟨b, k, none⟩ = false := by
  simp [World.frozen?, h.row]

/-- What stands in a set, asked of any number. -/
def inB (f : Nat → Bool) (i : Int) : Bool := decide (0 ≤ i) && f i.toNat

theorem e63 : (2 : Int) ^ 63 = 9223372036854775808 := by decide
theorem and_pow (x k : Nat) : x &&& 2 ^ k = if x.testBit k = true then 2 ^ k else 0 := by
  apply Nat.eq_of_testBit_eq
  intro i
  rw [Nat.testBit_and, Nat.testBit_two_pow]
  by_cases h : k = i
  · subst h
    cases hx : x.testBit k
    · simp
    · simp
  · split <;> simp [h]
theorem wraps63 (n : Int) (h0 : 0 ≤ n) (h1 : n < 2 ^ 63) : IntKind.i64.wrap n = n := by
  have e : (2 : Int) ^ 63 = 9223372036854775808 := by decide
  rw [e] at h1
  rw [IntKind.wrap_i64]; omega
theorem at_any (j : Nat) (h : j < 1000000) (w : World) : Calls Tryd.prog 30 #[.int .i64 j] w fun e w' => e = .returned (.tuple #[.int .i64 (wi j : Nat), .int .u64 (pw j : Nat)]) ∧ w = w' := by
  have h1 : bits BinOp.and IntKind.i64 (j : Int) 63 = ((j % 64 : Nat) : Int) := by
    have := bits_mask .i64 63 (by decide) wraps63 6 (by decide) (j : Int) (by omega) (by rw [e63]; omega)
    have e : (63 : Int) = 2 ^ 6 - 1 := by decide
    rw [e, this]; omega
  have h2 : IntKind.u64.wrap ((j % 64 : Nat) : Int) = ((j % 64 : Nat) : Int) := by rw [IntKind.wrap_u64]; omega
  have h3 : min ((j % 64 : Nat) : Int).toNat 64 = j % 64 := by omega
  have h4 : IntKind.u64.wrap ((2 : Int) ^ (j % 64)) = ((pw j : Nat) : Int) := by
    have hlt : 2 ^ (j % 64) ≤ 2 ^ 63 := Nat.pow_le_pow_right (by decide) (by omega)
    have hc : ((2 : Int) ^ (j % 64)) = ((2 ^ (j % 64) : Nat) : Int) := by simp
    have e : 2 ^ 63 = 9223372036854775808 := by decide
    rw [e] at hlt
    rw [hc, IntKind.wrap_u64]; unfold pw
    generalize 2 ^ (j % 64) = q at *
    omega
  have h5 : (j : Int) / 64 = ((wi j : Nat) : Int) := by unfold wi; omega
  have H1 := Lib.hid h1
  have H2 := Lib.hid h2
  have H3 := Lib.hid h3
  have H4 := Lib.hid h4
  have H5 := Lib.hid h5
  clear h1 h2 h3 h4 h5
  go_enter Tryd.func30, Tryd.ntmps30
  go_wp2
  go_ret2
  refine ⟨?_, rfl⟩
  rw [H1.out, H2.out, H3.out, H4.out, H5.out]
  rfl

theorem and_pw (f : Nat → Bool) (j : Nat) : (bits BinOp.and IntKind.u64 (wd f (wi j) : Int) (pw j : Int) != 0) = f j := by
  have hp : pw j < 18446744073709551616 := by
    unfold pw
    exact Nat.lt_of_lt_of_le (Nat.pow_lt_pow_right (a := 2) (n := 64) (by decide) (by omega)) (by decide)
  rw [bits_and_u64_nat _ _ (wd_lt f _) hp]
  have hj : 64 * wi j + j % 64 = j := by unfold wi; omega
  have hb : (wd f (wi j)).testBit (j % 64) = f j := by rw [testBit_wd, hj]; simp; intro; omega
  rw [← hb]
  unfold pw
  rw [and_pow]
  have hpos : 0 < 2 ^ (j % 64) := Nat.two_pow_pos _
  cases (wd f (wi j)).testBit (j % 64)
  · simp
  · have h2 : ((2 ^ (j % 64) : Nat) : Int) ≠ 0 := by omega
    simpa using h2

theorem has_any (i : Int) (hi : (Lit.int .i64 i).wf = true) (p b n : Nat) (f : Nat → Bool) (w : World) (hs : SetAt w p b n f) :
    Calls Tryd.prog 10 #[.pointer (some ⟨p, 0, none⟩), .int .i64 i] w fun e w' => e = .returned (.bool (inB f i)) ∧ w = w' := by
  have c0 := hs.c0
  have c1 := hs.c1
  have HS := Lib.hid hs
  have hsm := hs.small
  clear hs
  by_cases h0 : i < 0
  · have H : Hid (inB f i = false) := by show inB f i = false; unfold inB; simp; omega
    go_enter Tryd.func10, Tryd.ntmps10
    go_wp2
    go_ret
    exact ⟨by rw [H.out]; rfl, rfl⟩
  · by_cases h1 : (n : Int) ≤ i
    · have H : Hid (inB f i = false) := by
        show inB f i = false
        unfold inB
        cases hf : f i.toNat with
        | false => simp
        | true => have := HS.out.low _ hf; omega
      go_enter Tryd.func10, Tryd.ntmps10
      go_wp2
      go_ret
      exact ⟨by rw [H.out]; rfl, rfl⟩
    · obtain ⟨j, rfl⟩ := Int.eq_ofNat_of_zero_le (by omega : 0 ≤ i)
      have hj : j < n := by omega
      have c2 := HS.out.cell (wi_lt hj)
      have hw := wi_lt hj
      have hnw := nw_le hsm
      have hb := and_pw f j
      have H : Hid (f j = inB f j) := by show f j = inB f j; unfold inB; simp
      go_enter Tryd.func10, Tryd.ntmps10
      go_wp2_with (go_at_call 30; refine (at_any _ (by omega) _).mono ?_; rintro e w' ⟨rfl, rfl⟩)
      go_ret
      exact ⟨by rw [← H.out]; rfl, rfl⟩

/-! ### One word is stored anew -/
theorem SetAt.set {w : World} {p b n : Nat} {f : Nat → Bool} (h : SetAt w p b n f) (k : Nat) (f' : Nat → Bool) (hlow : ∀ i, f' i = true → i < n) (hsame : ∀ q, q ≠ k → wd f' q = wd f q) :
    SetAt (w.setCell ⟨b, k, none⟩ (.int .u64 (wd f' k))) p b n f' := by
  refine ⟨(Below.heap_setCell w _ _ p h.ne).trans h.obj, ?_, h.small, hlow⟩
  show (w.heap.modify b _)[b]? = _
  rw [Array.getElem?_modify, if_pos rfl, h.row]
  simp only [Option.map_some, Option.isSome_none, Bool.false_eq_true, if_false]
  rw [wordsArr_set _ _ _ _ hsame]
theorem grown_set {a w : World} {b : Nat} (h : a.grownBy w (some b)) (k : Nat) (v : Value) : a.grownBy (w.setCell ⟨b, k, none⟩ v) (some b) :=
  ⟨h.os, h.tape, h.output, by show _ ≤ (w.heap.modify _ _).size; rw [Array.size_modify]; exact h.size,
    fun q hq hne => (Below.heap_setCell w _ _ q (fun e => hne (by rw [e]))).trans (h.block q hq hne)⟩
theorem grown_refl (w : World) (r : Option Nat) : w.grownBy w r := ⟨rfl, rfl, rfl, Nat.le_refl _, fun _ _ _ => rfl⟩
theorem grown_trans {a b c : World} {r : Option Nat} (h : a.grownBy b r) (k : b.grownBy c r) : a.grownBy c r :=
  ⟨k.os.trans h.os, k.tape.trans h.tape, k.output.trans h.output, Nat.le_trans h.size k.size, fun q hq hne => (k.block q (Nat.lt_of_lt_of_le hq h.size) hne).trans (h.block q hq hne)⟩
theorem grown_drew {a w : World} {r : Option Nat} (h : a.grownBy w r) : a.grownBy w.drew r := ⟨h.os, h.tape, h.output, h.size, h.block⟩
theorem SetAt.drew {w : World} {p b n : Nat} {f : Nat → Bool} (h : SetAt w p b n f) : SetAt w.drew p b n f := ⟨h.obj, h.row, h.small, h.low⟩

theorem pw_lt (j : Nat) : pw j < 18446744073709551616 := by
  unfold pw
  exact Nat.lt_of_lt_of_le (Nat.pow_lt_pow_right (a := 2) (n := 64) (by decide) (by omega)) (by decide)
theorem pw_bit (j t : Nat) (_ht : t < 64) : (pw j).testBit t = decide (64 * wi j + t = j) := by
  unfold pw wi
  rw [Nat.testBit_two_pow]
  have : (j % 64 = t) ↔ (64 * (j / 64) + t = j) := by omega
  simp only [this]
def addF (f : Nat → Bool) (j : Nat) (q : Nat) : Bool := f q || decide (q = j)
def delF (f : Nat → Bool) (j : Nat) (q : Nat) : Bool := f q && decide (q ≠ j)
theorem or_pw (f : Nat → Bool) (j : Nat) : bits BinOp.or IntKind.u64 (wd f (wi j) : Int) (pw j : Int) = (wd (addF f j) (wi j) : Nat) := by
  rw [bits_or_u64_nat _ _ (wd_lt f _) (pw_lt j)]
  have h : wd f (wi j) ||| pw j = wd (addF f j) (wi j) := by
    refine wd_eq (Nat.or_lt_two_pow (n := 64) (wd_lt f _) (pw_lt j)) (fun t ht => ?_)
    rw [Nat.testBit_or, testBit_wd, pw_bit j t ht]
    simp [addF, ht]
  rw [h]
theorem bits_andNot_u64_nat (a b : Nat) (ha : a < 18446744073709551616) (hb : b < 18446744073709551616) :
    ∃ c : Nat, bits .andNot .u64 (a : Int) (b : Int) = (c : Int) ∧ c < 18446744073709551616 ∧ ∀ t, t < 64 → c.testBit t = (a.testBit t && !b.testBit t) := by
  have h1 : (BitVec.ofInt 64 (a : Int)).toNat = a := by
    rw [BitVec.ofInt_natCast, BitVec.toNat_ofNat]; exact Nat.mod_eq_of_lt (by omega)
  have h2 : (BitVec.ofInt 64 (b : Int)).toNat = b := by
    rw [BitVec.ofInt_natCast, BitVec.toNat_ofNat]; exact Nat.mod_eq_of_lt (by omega)
  refine ⟨(BitVec.ofInt 64 (a : Int) &&& ~~~ BitVec.ofInt 64 (b : Int)).toNat, ?_, Nat.lt_of_lt_of_le (BitVec.isLt _) (by decide), fun t ht => ?_⟩
  · show IntKind.u64.wrap ((BitVec.ofInt 64 (a : Int) &&& ~~~ BitVec.ofInt 64 (b : Int)).toNat : Int) = _
    have := (BitVec.ofInt 64 (a : Int) &&& ~~~ BitVec.ofInt 64 (b : Int)).isLt
    rw [IntKind.wrap_u64]; omega
  · rw [BitVec.testBit_toNat, BitVec.getLsbD_and, BitVec.getLsbD_not, ← BitVec.testBit_toNat, ← BitVec.testBit_toNat, h1, h2]
    simp [ht]
theorem andNot_pw (f : Nat → Bool) (j : Nat) : bits BinOp.andNot IntKind.u64 (wd f (wi j) : Int) (pw j : Int) = (wd (delF f j) (wi j) : Nat) := by
  obtain ⟨c, h1, h2, h3⟩ := bits_andNot_u64_nat _ _ (wd_lt f (wi j)) (pw_lt j)
  have h : c = wd (delF f j) (wi j) := by
    refine wd_eq h2 (fun t ht => ?_)
    rw [h3 t ht, testBit_wd, pw_bit j t ht]
    simp [delF, ht]
  rw [h1, h]
theorem wd_addF (f : Nat → Bool) (j q : Nat) (hq : q ≠ wi j) : wd (addF f j) q = wd f q := wd_congr (fun t ht => by
  have : 64 * q + t ≠ j := by unfold wi at hq; omega
  simp [addF, this])
theorem wd_delF (f : Nat → Bool) (j q : Nat) (hq : q ≠ wi j) : wd (delF f j) q = wd f q := wd_congr (fun t ht => by
  have : 64 * q + t ≠ j := by unfold wi at hq; omega
  simp [delF, this])

/-- Add's answer, and what stands in the set behind it. -/
def canAdd (f : Nat → Bool) (n : Nat) (i : Int) : Bool := decide (0 ≤ i) && decide (i < n) && !f i.toNat
def addI (f : Nat → Bool) (n : Nat) (i : Int) : Nat → Bool := if canAdd f n i then addF f i.toNat else f
def delI (f : Nat → Bool) (i : Int) : Nat → Bool := if inB f i then delF f i.toNat else f

theorem add_any (i : Int) (hi : (Lit.int .i64 i).wf = true) (p b n : Nat) (f : Nat → Bool) (w : World) (hs : SetAt w p b n f) :
    Calls Tryd.prog 19 #[.pointer (some ⟨p, 0, none⟩), .int .i64 i] w fun e w' => e = .returned (.bool (canAdd f n i)) ∧ SetAt w' p b n (addI f n i) ∧ w.grownBy w' (some b) := by
  have c0 := hs.c0
  have c1 := hs.c1
  have HS := Lib.hid hs
  have hsm := hs.small
  clear hs
  by_cases h0 : i < 0
  · have H : Hid (canAdd f n i = false) := by show canAdd f n i = false; unfold canAdd; simp; omega
    have H2 : Hid (addI f n i = f) := by show addI f n i = f; unfold addI; rw [H.out]; rfl
    go_enter Tryd.func19, Tryd.ntmps19
    go_wp2
    go_ret
    exact ⟨by rw [H.out]; rfl, by rw [H2.out]; exact HS.out, grown_refl _ _⟩
  · by_cases h1 : (n : Int) ≤ i
    · have H : Hid (canAdd f n i = false) := by show canAdd f n i = false; unfold canAdd; simp; omega
      have H2 : Hid (addI f n i = f) := by show addI f n i = f; unfold addI; rw [H.out]; rfl
      go_enter Tryd.func19, Tryd.ntmps19
      go_wp2
      go_ret
      exact ⟨by rw [H.out]; rfl, by rw [H2.out]; exact HS.out, grown_refl _ _⟩
    · obtain ⟨j, rfl⟩ := Int.eq_ofNat_of_zero_le (by omega : 0 ≤ i)
      have hj : j < n := by omega
      have c2 := HS.out.cell (wi_lt hj)
      have c3 := HS.out.free (wi j)
      have hw := wi_lt hj
      have hnw := nw_le hsm
      have hb := or_pw f j
      have HI := Lib.hid hi
      have hin : inB f j = f j := by unfold inB; simp
      have HIN := Lib.hid hin
      clear hi hin
      cases hf : f j with
      | true =>
        have HF := Lib.hid hf
        have H : Hid (canAdd f n j = false) := by show canAdd f n j = false; unfold canAdd; simp [hf]
        have H2 : Hid (addI f n j = f) := by show addI f n j = f; unfold addI; rw [H.out]; rfl
        clear hf
        go_enter Tryd.func19, Tryd.ntmps19
        go_wp2_with (go_at_call 10; refine (has_any _ HI.out _ _ _ _ _ HS.out).mono ?_; rw [HIN.out, HF.out]; rintro e w' ⟨rfl, rfl⟩)
        go_ret
        exact ⟨by rw [H.out]; rfl, by rw [H2.out]; exact HS.out, grown_refl _ _⟩
      | false =>
        have HF := Lib.hid hf
        have H : Hid (canAdd f n j = true) := by show canAdd f n j = true; unfold canAdd; simp [hf, hj]
        have H2 : Hid (addI f n j = addF f j) := by show addI f n j = addF f j; unfold addI; rw [H.out]; simp
        have H3 : Hid (SetAt (w.setCell ⟨b, wi j, none⟩ (.int .u64 (wd (addF f j) (wi j)))) p b n (addF f j)) := HS.out.set (wi j) (addF f j) (fun q hq => by
          simp only [addF, Bool.or_eq_true, decide_eq_true_eq] at hq
          rcases hq with hq | rfl
          · exact HS.out.low q hq
          · exact hj) (fun q hq => wd_addF f j q hq)
        clear hf
        go_enter Tryd.func19, Tryd.ntmps19
        go_wp2_with (first
          | (go_at_call 10; refine (has_any _ HI.out _ _ _ _ _ HS.out).mono ?_; rw [HIN.out, HF.out]; rintro e w' ⟨rfl, rfl⟩)
          | (go_at_call 30; refine (at_any _ (by omega) _).mono ?_; rintro e w' ⟨rfl, rfl⟩))
        go_ret
        exact ⟨by rw [H.out]; rfl, by rw [H2.out]; exact H3.out, grown_set (grown_refl _ _) _ _⟩

theorem del_any (i : Int) (hi : (Lit.int .i64 i).wf = true) (p b n : Nat) (f : Nat → Bool) (w : World) (hs : SetAt w p b n f) :
    Calls Tryd.prog 8 #[.pointer (some ⟨p, 0, none⟩), .int .i64 i] w fun e w' => e = .returned (.bool (inB f i)) ∧ SetAt w' p b n (delI f i) ∧ w.grownBy w' (some b) := by
  have c0 := hs.c0
  have c1 := hs.c1
  have HS := Lib.hid hs
  have hsm := hs.small
  have HI := Lib.hid hi
  clear hs hi
  cases hin : inB f i with
  | false =>
    have HIN := Lib.hid hin
    have H2 : Hid (delI f i = f) := by show delI f i = f; unfold delI; rw [hin]; rfl
    clear hin
    go_enter Tryd.func8, Tryd.ntmps8
    go_wp2_with (go_at_call 10; refine (has_any _ HI.out _ _ _ _ _ HS.out).mono ?_; rw [HIN.out]; rintro e w' ⟨rfl, rfl⟩)
    go_ret
    exact ⟨rfl, by rw [H2.out]; exact HS.out, grown_refl _ _⟩
  | true =>
    obtain ⟨j, rfl⟩ : ∃ j : Nat, i = (j : Int) := Int.eq_ofNat_of_zero_le (by unfold inB at hin; simp at hin; exact hin.1)
    have hfj : f j = true := by unfold inB at hin; simpa using hin
    have hj := HS.out.low _ hfj
    have c2 := HS.out.cell (wi_lt hj)
    have c3 := HS.out.free (wi j)
    have hw := wi_lt hj
    have hnw := nw_le hsm
    have hb := andNot_pw f j
    have HIN := Lib.hid hin
    have H2 : Hid (delI f j = delF f j) := by show delI f j = delF f j; unfold delI; rw [hin]; simp
    have H3 : Hid (SetAt (w.setCell ⟨b, wi j, none⟩ (.int .u64 (wd (delF f j) (wi j)))) p b n (delF f j)) := HS.out.set (wi j) (delF f j) (fun q hq => by
      simp only [delF, Bool.and_eq_true] at hq
      exact HS.out.low q hq.1) (fun q hq => wd_delF f j q hq)
    clear hin hfj
    go_enter Tryd.func8, Tryd.ntmps8
    go_wp2_with (first
      | (go_at_call 10; refine (has_any _ HI.out _ _ _ _ _ HS.out).mono ?_; rw [HIN.out]; rintro e w' ⟨rfl, rfl⟩)
      | (go_at_call 30; refine (at_any _ (by omega) _).mono ?_; rintro e w' ⟨rfl, rfl⟩))
    go_ret
    exact ⟨rfl, by rw [H2.out]; exact H3.out, grown_set (grown_refl _ _) _ _⟩
end Go.Proofs.YtgceaicokacgjaaDoor
