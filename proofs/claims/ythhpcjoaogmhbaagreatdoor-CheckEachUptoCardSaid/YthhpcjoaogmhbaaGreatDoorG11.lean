/- Joined by my own program, in build order: Tl. -/
import Derived.Test.YthhpcjoaogmhbaaGreatDoorG9
import Derived.Test.YthhpcjoaogmhbaaGreatDoorG10
import Derived.Lib.ItoaLen
set_option linter.unusedVariables false
set_option linter.unusedSimpArgs false
section
namespace Go.Proofs.YthhpcjoaogmhbaaGreatDoor
namespace V
open Go.RowKit
mutual
def QS : Expr → Nat
 | ⟨_, _, _, kids⟩ => 1 + I9 kids
def I9 : List Expr → Nat
 | [] => 0
 | x :: l => QS x + I9 l
end
def nL : List Expr → Nat
 | [] => 0
 | x :: l => (dZ x).length + 4 + nL l
theorem mI (x : Expr) (want : Int) : (bR x want).length ≤ (dZ x).length + 2 := by
 show (if tT x.kind < want then 40 :: (dZ x ++ [41]) else dZ x).length ≤ _
 split
 ·simp
 ·omega
theorem vL : ∀ l : List Expr, (jQ l).length ≤ nL l
 | [] => by simp [jQ, fU, nL]
 | [x] => by
   have := mI x 1
   simp only [jQ, List.map_cons, List.map_nil, fU, nL]
   omega
 | x :: y :: l => by
   have h1 := mI x 1
   have h2 := vL (y :: l)
   have e : jQ (x :: y :: l) = bR x 1 ++ 44 :: 32 :: jQ (y :: l) := rfl
   have e2 : nL (x :: y :: l) = (dZ x).length + 4 + nL (y :: l) := by simp only [nL]
   rw [e, e2, List.length_append, List.length_cons, List.length_cons]
   omega
theorem JU : ∀ (l : List Expr), nL (l.drop 1) ≤ nL l
 | [] => by simp
 | x :: l => by simp only [List.drop_succ_cons, List.drop_zero, nL]; omega
theorem Ro (l : List Expr) (i : Nat) (want : Int) : (rY (jX l) i want).length ≤ nL l := by
 cases hx : l[i]? with
 | none => unfold rY; rw [nG, List.getElem?_map, hx]; simp
 | some x =>
   rw [fK hx]
   refine Nat.le_trans (mI x want) ?_
   induction l generalizing i with
   | nil => simp at hx
   | cons y l ih =>
     cases i with
     | zero => simp at hx; subst hx; simp only [nL]; omega
     | succ i => have := ih i (by simpa using hx); simp only [nL]; omega
theorem JA (l : List Expr) (want : Int) : (rY (jX l) 0 want).length + (jQ (l.drop 1)).length ≤ nL l := by
 cases l with
 | nil => simp [rY, jX, jQ, fU]
 | cons x l =>
   rw [fK (l := x :: l) (i := 0) rfl]
   have := mI x want
   have := vL l
   simp only [List.drop_succ_cons, List.drop_zero, nL]
   omega
theorem PX (l : List Expr) (w1 w2 : Int) : (rY (jX l) 0 w1).length + (rY (jX l) 1 w2).length ≤ nL l := by
 match l with
 | [] => simp [rY, jX]
 | [x] =>
   have := mI x w1
   rw [fK (l := [x]) (i := 0) rfl]
   have e : rY (jX [x]) 1 w2 = [] := rfl
   rw [e]
   simp only [nL, List.length_nil]
   omega
 | x :: y :: l =>
   rw [fK (l := x :: y :: l) (i := 0) rfl, fK (l := x :: y :: l) (i := 1) rfl]
   have := mI x w1
   have := mI y w2
   simp only [nL]
   omega
theorem OW (k : Int) : (shapeOf k).1.sign.data.toList.length ≤ 4 := by
 unfold shapeOf
 split
 ·dsimp only
  rw [List.getD_eq_getElem?_getD]
  cases hx : shapes[(k - 1).toNat]? with
  | none => decide
  | some s =>
    have : ∀ s ∈ shapes, s.sign.data.toList.length ≤ 4 := by decide
    exact this s (List.mem_of_getElem? hx)
 ·decide
mutual
theorem JY : ∀ x : Expr, cK x = true → (dZ x).length + 4 ≤ 64 * QS x
 | ⟨k, n, nm, kids⟩, h => by
   simp only [cK, Bool.and_eq_true] at h
   obtain ⟨htop, hk⟩ := h
   have hsum := Ez kids hk
   rw [kU] at htop
   simp only [Bool.and_eq_true, decide_eq_true_eq] at htop
   obtain ⟨⟨⟨⟨⟨-, hlo⟩, hhi⟩, hn0⟩, hn1⟩, hnm⟩ := htop
   have hnum : (Lib.itoa n).length ≤ 21 := by
    have h5 : (shapeOf k).1.num ≤ 9223372036854775807 := by
     unfold shapeOf
     split
     ·dsimp only
      rw [List.getD_eq_getElem?_getD]
      cases hx : shapes[(k - 1).toNat]? with
      | none => decide
      | some s =>
        have : ∀ s ∈ shapes, s.num ≤ 9223372036854775807 := by decide
        exact this s (List.mem_of_getElem? hx)
     ·decide
    have hn0 : 0 ≤ n := hn0
    have hn1 : n ≤ (shapeOf k).1.num := hn1
    exact Lib.itoa_length_le n (by omega) (by omega)
   have hname : nm.data.toList.length ≤ 16 := by
    by_cases hb : (shapeOf k).1.name = true
    ·have hnm : (if (shapeOf k).1.name then bK nm else nm.data.toList.isEmpty) = true := hnm
     rw [if_pos hb] at hnm
     unfold bK at hnm
     split at hnm
     ·cases hnm
     ·rename_i c r e
      rw [e]
      simp only [Bool.and_eq_true, decide_eq_true_eq] at hnm
      exact hnm.1.1.1
    ·have hnm : (if (shapeOf k).1.name then bK nm else nm.data.toList.isEmpty) = true := hnm
     rw [if_neg hb] at hnm
     have : nm.data.toList = [] := by simpa using hnm
     rw [this]; simp
   have hA : (dZ ⟨k, n, nm, kids⟩).length ≤ 50 + nL kids := by
    rw [ig]
    dsimp only
    have hl1 := vL kids
    have hd := JU kids
    have hl2 := vL (kids.drop 1)
    have hs := OW k
    have k4 := Ro kids 0 4
    have k5 := JA kids 4
    have k6 := PX kids (max (tT k) 2) (tT k + 1)
    unfold sM
    rw [oP, Ic]
    by_cases e1 : k = 1
    ·rw [if_pos e1]
     (try simp only [List.length_append, List.length_cons, List.length_nil])
     omega
    rw [if_neg e1]
    by_cases e2 : k = 2
    ·rw [if_pos e2]
     (try simp only [List.length_append, List.length_cons, List.length_nil])
     omega
    rw [if_neg e2]
    by_cases e3 : k = 3
    ·rw [if_pos e3]
     (try simp only [List.length_append, List.length_cons, List.length_nil])
     omega
    rw [if_neg e3]
    by_cases e4 : k = 4
    ·rw [if_pos e4]
     (try simp only [List.length_append, List.length_cons, List.length_nil])
     omega
    rw [if_neg e4]
    by_cases e5 : k = 5
    ·rw [if_pos e5]
     (try simp only [List.length_append, List.length_cons, List.length_nil])
     omega
    rw [if_neg e5]
    by_cases e6 : k = 6
    ·rw [if_pos e6]
     (try simp only [List.length_append, List.length_cons, List.length_nil])
     omega
    rw [if_neg e6]
    by_cases e7 : k = 7
    ·rw [if_pos e7]
     (try simp only [List.length_append, List.length_cons, List.length_nil])
     omega
    rw [if_neg e7]
    by_cases e8 : k = 8
    ·rw [if_pos e8]
     (try simp only [List.length_append, List.length_cons, List.length_nil])
     omega
    rw [if_neg e8]
    by_cases e9 : k = 9
    ·rw [if_pos e9]
     (try simp only [List.length_append, List.length_cons, List.length_nil])
     omega
    rw [if_neg e9]
    by_cases e10 : k = 10
    ·rw [if_pos e10]
     (try simp only [List.length_append, List.length_cons, List.length_nil])
     omega
    rw [if_neg e10]
    by_cases e11 : k = 11
    ·rw [if_pos e11]
     (try simp only [List.length_append, List.length_cons, List.length_nil])
     omega
    rw [if_neg e11]
    by_cases e12 : k = 12
    ·rw [if_pos e12]
     (try simp only [List.length_append, List.length_cons, List.length_nil])
     omega
    rw [if_neg e12]
    simp only [List.length_append]
    omega
   simp only [QS]
   omega
theorem Ez : ∀ l : List Expr, og l = true → nL l ≤ 64 * I9 l
 | [], _ => by simp [nL]
 | x :: l, h => by
   simp only [og, Bool.and_eq_true] at h
   have h1 := JY x h.1
   have h2 := Ez l h.2
   simp only [nL, I9]
   omega
end
end V
end Go.Proofs.YthhpcjoaogmhbaaGreatDoor
end
