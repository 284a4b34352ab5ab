/- Joined by my own program, in build order: Tl. -/
import Derived.Test.YtbmbmcdaabhgnaaDoorA9
import Derived.Test.YtbmbmcdaabhgnaaDoorA10
import Derived.Lib.ItoaLen
set_option linter.unusedVariables false
set_option linter.unusedSimpArgs false
section
set_option linter.unusedVariables false
set_option linter.unusedSimpArgs false
namespace Go.Proofs.YtbmbmcdaabhgnaaDoor
namespace V
open Go.RowKit
mutual
def cntE : Expr → Nat
  | ⟨_, _, _, kids⟩ => 1 + cntEs kids
def cntEs : List Expr → Nat
  | [] => 0
  | x :: l => cntE x + cntEs l
end
def sumX : List Expr → Nat
  | [] => 0
  | x :: l => (textX x).length + 4 + sumX l
theorem exprX_le (x : Expr) (want : Int) : (exprX x want).length ≤ (textX x).length + 2 := by
  show (if levX x.kind < want then 40 :: (textX x ++ [41]) else textX x).length ≤ _
  split
  · simp
  · omega
theorem listE_le : ∀ l : List Expr, (listE l).length ≤ sumX l
  | [] => by simp [listE, commaX, sumX]
  | [x] => by
    have := exprX_le x 1
    simp only [listE, List.map_cons, List.map_nil, commaX, sumX]
    omega
  | x :: y :: l => by
    have h1 := exprX_le x 1
    have h2 := listE_le (y :: l)
    have e : listE (x :: y :: l) = exprX x 1 ++ 44 :: 32 :: listE (y :: l) := rfl
    have e2 : sumX (x :: y :: l) = (textX x).length + 4 + sumX (y :: l) := by simp only [sumX]
    rw [e, e2, List.length_append, List.length_cons, List.length_cons]
    omega
theorem sumX_drop : ∀ (l : List Expr), sumX (l.drop 1) ≤ sumX l
  | [] => by simp
  | x :: l => by simp only [List.drop_succ_cons, List.drop_zero, sumX]; omega
theorem kid_le (l : List Expr) (i : Nat) (want : Int) : (kidX (textsX l) i want).length ≤ sumX l := by
  cases hx : l[i]? with
  | none => unfold kidX; rw [textsX_map, List.getElem?_map, hx]; simp
  | some x =>
    rw [kidX_at hx]
    refine Nat.le_trans (exprX_le x want) ?_
    induction l generalizing i with
    | nil => simp at hx
    | cons y l ih =>
      cases i with
      | zero => simp at hx; subst hx; simp only [sumX]; omega
      | succ i => have := ih i (by simpa using hx); simp only [sumX]; omega
theorem kid0_list (l : List Expr) (want : Int) : (kidX (textsX l) 0 want).length + (listE (l.drop 1)).length ≤ sumX l := by
  cases l with
  | nil => simp [kidX, textsX, listE, commaX]
  | cons x l =>
    rw [kidX_at (l := x :: l) (i := 0) rfl]
    have := exprX_le x want
    have := listE_le l
    simp only [List.drop_succ_cons, List.drop_zero, sumX]
    omega
theorem kid_two (l : List Expr) (w1 w2 : Int) : (kidX (textsX l) 0 w1).length + (kidX (textsX l) 1 w2).length ≤ sumX l := by
  match l with
  | [] => simp [kidX, textsX]
  | [x] =>
    have := exprX_le x w1
    rw [kidX_at (l := [x]) (i := 0) rfl]
    have e : kidX (textsX [x]) 1 w2 = [] := rfl
    rw [e]
    simp only [sumX, List.length_nil]
    omega
  | x :: y :: l =>
    rw [kidX_at (l := x :: y :: l) (i := 0) rfl, kidX_at (l := x :: y :: l) (i := 1) rfl]
    have := exprX_le x w1
    have := exprX_le y w2
    simp only [sumX]
    omega
theorem sign_le (k : Int) : (shapeOf k).1.sign.data.toList.length ≤ 4 := by
  unfold shapeOf
  split
  · dsimp only
    rw [List.getD_eq_getElem?_getD]
    cases hx : shapes[(k - 1).toNat]? with
    | none => decide
    | some s =>
      have : ∀ s ∈ shapes, s.sign.data.toList.length ≤ 4 := by decide
      exact this s (List.mem_of_getElem? hx)
  · decide
mutual
theorem textX_len : ∀ x : Expr, exprB x = true → (textX x).length + 4 ≤ 64 * cntE x
  | ⟨k, n, nm, kids⟩, h => by
    simp only [exprB, Bool.and_eq_true] at h
    obtain ⟨htop, hk⟩ := h
    have hsum := sumX_len kids hk
    rw [exprTop_eq] at htop
    simp only [Bool.and_eq_true, decide_eq_true_eq] at htop
    obtain ⟨⟨⟨⟨⟨-, hlo⟩, hhi⟩, hn0⟩, hn1⟩, hnm⟩ := htop
    have hnum : (Lib.itoa n).length ≤ 21 := by
      have h5 : (shapeOf k).1.num ≤ 9223372036854775807 := by
        unfold shapeOf
        split
        · dsimp only
          rw [List.getD_eq_getElem?_getD]
          cases hx : shapes[(k - 1).toNat]? with
          | none => decide
          | some s =>
            have : ∀ s ∈ shapes, s.num ≤ 9223372036854775807 := by decide
            exact this s (List.mem_of_getElem? hx)
        · decide
      have hn0 : 0 ≤ n := hn0
      have hn1 : n ≤ (shapeOf k).1.num := hn1
      exact Lib.itoa_length_le n (by omega) (by omega)
    have hname : nm.data.toList.length ≤ 16 := by
      by_cases hb : (shapeOf k).1.name = true
      · have hnm : (if (shapeOf k).1.name then isNameB nm else nm.data.toList.isEmpty) = true := hnm
        rw [if_pos hb] at hnm
        unfold isNameB at hnm
        split at hnm
        · cases hnm
        · rename_i c r e
          rw [e]
          simp only [Bool.and_eq_true, decide_eq_true_eq] at hnm
          exact hnm.1.1.1
      · have hnm : (if (shapeOf k).1.name then isNameB nm else nm.data.toList.isEmpty) = true := hnm
        rw [if_neg hb] at hnm
        have : nm.data.toList = [] := by simpa using hnm
        rw [this]; simp
    have hA : (textX ⟨k, n, nm, kids⟩).length ≤ 50 + sumX kids := by
      rw [textX_eq]
      dsimp only
      have hl1 := listE_le kids
      have hd := sumX_drop kids
      have hl2 := listE_le (kids.drop 1)
      have hs := sign_le k
      have k4 := kid_le kids 0 4
      have k5 := kid0_list kids 4
      have k6 := kid_two kids (max (levX k) 2) (levX k + 1)
      unfold bodyX
      rw [listX_eq, listX_drop]
      by_cases e1 : k = 1
      · rw [if_pos e1]
        (try simp only [List.length_append, List.length_cons, List.length_nil])
        omega
      rw [if_neg e1]
      by_cases e2 : k = 2
      · rw [if_pos e2]
        (try simp only [List.length_append, List.length_cons, List.length_nil])
        omega
      rw [if_neg e2]
      by_cases e3 : k = 3
      · rw [if_pos e3]
        (try simp only [List.length_append, List.length_cons, List.length_nil])
        omega
      rw [if_neg e3]
      by_cases e4 : k = 4
      · rw [if_pos e4]
        (try simp only [List.length_append, List.length_cons, List.length_nil])
        omega
      rw [if_neg e4]
      by_cases e5 : k = 5
      · rw [if_pos e5]
        (try simp only [List.length_append, List.length_cons, List.length_nil])
        omega
      rw [if_neg e5]
      by_cases e6 : k = 6
      · rw [if_pos e6]
        (try simp only [List.length_append, List.length_cons, List.length_nil])
        omega
      rw [if_neg e6]
      by_cases e7 : k = 7
      · rw [if_pos e7]
        (try simp only [List.length_append, List.length_cons, List.length_nil])
        omega
      rw [if_neg e7]
      by_cases e8 : k = 8
      · rw [if_pos e8]
        (try simp only [List.length_append, List.length_cons, List.length_nil])
        omega
      rw [if_neg e8]
      by_cases e9 : k = 9
      · rw [if_pos e9]
        (try simp only [List.length_append, List.length_cons, List.length_nil])
        omega
      rw [if_neg e9]
      by_cases e10 : k = 10
      · rw [if_pos e10]
        (try simp only [List.length_append, List.length_cons, List.length_nil])
        omega
      rw [if_neg e10]
      by_cases e11 : k = 11
      · rw [if_pos e11]
        (try simp only [List.length_append, List.length_cons, List.length_nil])
        omega
      rw [if_neg e11]
      by_cases e12 : k = 12
      · rw [if_pos e12]
        (try simp only [List.length_append, List.length_cons, List.length_nil])
        omega
      rw [if_neg e12]
      simp only [List.length_append]
      omega
    simp only [cntE]
    omega
theorem sumX_len : ∀ l : List Expr, exprsB l = true → sumX l ≤ 64 * cntEs l
  | [], _ => by simp [sumX]
  | x :: l, h => by
    simp only [exprsB, Bool.and_eq_true] at h
    have h1 := textX_len x h.1
    have h2 := sumX_len l h.2
    simp only [sumX, cntEs]
    omega
end
end V
end Go.Proofs.YtbmbmcdaabhgnaaDoor
end
