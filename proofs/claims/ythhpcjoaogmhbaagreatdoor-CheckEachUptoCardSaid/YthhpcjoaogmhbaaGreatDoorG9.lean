/- Joined by my own program, in build order: Px. -/
import Derived.Test.YthhpcjoaogmhbaaGreatDoorG8
import Derived.Lib.ItoaNum
set_option linter.unusedVariables false
set_option linter.unusedSimpArgs false
section
namespace Go.Proofs.YthhpcjoaogmhbaaGreatDoor
namespace V
open Go.RowKit
def tT (k : Int) : Int := (shapeOf k).1.level
def atX (want : Int) (p : Int × List UInt8) : List UInt8 := if p.1 < want then 40 :: (p.2 ++ [41]) else p.2
def fU : List (List UInt8) → List UInt8
 | [] => []
 | [s] => s
 | s :: l => s ++ 44 :: 32 :: fU l
def rY (l : List (Int × List UInt8)) (i : Nat) (want : Int) : List UInt8 := match l[i]? with | some p => atX want p | none => []
def zO (l : List (Int × List UInt8)) : List UInt8 := fU (l.map (atX 1))
def sM (k n : Int) (nm : List UInt8) (l : List (Int × List UInt8)) : List UInt8 :=
 if k = 1 then Lib.itoa n
 else if k = 2 then [110, 117, 108, 108]
 else if k = 3 then [116, 104, 105, 115]
 else if k = 4 then nm
 else if k = 5 then [110, 101, 119, 32] ++ nm ++ [40, 41]
 else if k = 6 then [110, 101, 119, 32, 105, 110, 116, 91] ++ zO l ++ [93]
 else if k = 7 then rY l 0 4 ++ [46] ++ nm
 else if k = 8 then rY l 0 4 ++ [91] ++ zO (l.drop 1) ++ [93]
 else if k = 9 then rY l 0 4 ++ [46, 108, 101, 110, 103, 116, 104]
 else if k = 10 then rY l 0 4 ++ [46] ++ nm ++ [40] ++ zO (l.drop 1) ++ [41]
 else if k = 11 then [114, 101, 97, 100, 40] ++ Lib.itoa n ++ [41]
 else if k = 12 then [100, 101, 99, 108, 97, 115, 115, 105, 102, 121, 40] ++ zO l ++ [41]
 else rY l 0 (max (tT k) 2) ++ (shapeOf k).1.sign.data.toList ++ rY l 1 (tT k + 1)
mutual
def dZ : Expr → List UInt8
 | ⟨k, n, nm, kids⟩ => sM k n nm.data.toList (jX kids)
def jX : List Expr → List (Int × List UInt8)
 | [] => []
 | x :: l => (tT x.kind, dZ x) :: jX l
end
theorem nG (l : List Expr) : jX l = l.map fun x => (tT x.kind, dZ x) := by induction l with | nil => rfl | cons x l ih => simp [jX, ih]
def bR (x : Expr) (want : Int) : List UInt8 := atX want (tT x.kind, dZ x)
theorem fK {l : List Expr} {i : Nat} {x : Expr} (h : l[i]? = some x) (want : Int) : rY (jX l) i want = bR x want := by
 unfold rY
 rw [nG, List.getElem?_map, h]
 rfl
def jQ (l : List Expr) : List UInt8 := fU (l.map (bR · 1))
theorem oP (l : List Expr) : zO (jX l) = jQ l := by
 unfold zO jQ
 rw [nG, List.map_map]
 rfl
theorem Ic (l : List Expr) (i : Nat) : zO ((jX l).drop i) = jQ (l.drop i) := by
 rw [← oP, nG, nG, List.map_drop]
theorem ig (x : Expr) : dZ x = sM x.kind x.num x.name.data.toList (jX x.kids) := by cases x; rfl
theorem yD : ∀ (l : List (List UInt8)) (s : List UInt8), fU (l ++ [s]) = fU l ++ (if l.isEmpty then [] else [44, 32]) ++ s
 | [], s => by simp [fU]
 | [a], s => by simp [fU]
 | a :: b :: l, s => by
   have := yD (b :: l) s
   simp only [List.cons_append] at this
   simp only [List.cons_append, fU, this]
   simp
theorem EC {l : List Expr} {k : Nat} {x : Expr} (h : l[k]? = some x) : fU ((l.map (bR · 1)).take (k + 1)) = fU ((l.map (bR · 1)).take k) ++ (if k = 0 then [] else [44, 32]) ++ bR x 1 := by
 have hk : k < l.length := (List.getElem?_eq_some_iff.1 h).1
 have : (l.map (bR · 1)).take (k + 1) = (l.map (bR · 1)).take k ++ [bR x 1] := by
  rw [List.take_add_one, List.getElem?_map, h]
  rfl
 rw [this, yD]
 have : ((l.map (bR · 1)).take k).isEmpty = decide (k = 0) := by
  cases k with
  | zero => simp
  | succ k => cases l with
    | nil => simp at hk
    | cons a l => simp
 rw [this]
 by_cases hk0 : k = 0 <;> simp [hk0]
theorem CX : ∀ (l : List (List UInt8)) (k : Nat), (fU (l.take k)).length ≤ (fU l).length
 | [], k => by simp
 | [a], 0 => by simp [fU]
 | [a], k + 1 => by simp
 | a :: b :: l, 0 => by simp [fU]
 | a :: b :: l, 1 => by simp [fU]
 | a :: b :: l, k + 2 => by
   have := CX (b :: l) (k + 1)
   simp only [List.take_succ_cons] at this ⊢
   simp only [fU, List.length_append, List.length_cons] at this ⊢
   omega
end V
end Go.Proofs.YthhpcjoaogmhbaaGreatDoor
end
