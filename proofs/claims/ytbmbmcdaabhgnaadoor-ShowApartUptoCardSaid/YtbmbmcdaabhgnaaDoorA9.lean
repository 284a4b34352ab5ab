/- Joined by my own program, in build order: Px. -/
import Derived.Test.YtbmbmcdaabhgnaaDoorA8
import Derived.Lib.ItoaNum
set_option linter.unusedVariables false
set_option linter.unusedSimpArgs false
section
set_option linter.unusedVariables false
namespace Go.Proofs.YtbmbmcdaabhgnaaDoor
namespace V
open Go.RowKit
def levX (k : Int) : Int := (shapeOf k).1.level
def atX (want : Int) (p : Int × List UInt8) : List UInt8 := if p.1 < want then 40 :: (p.2 ++ [41]) else p.2
def commaX : List (List UInt8) → List UInt8
  | [] => []
  | [s] => s
  | s :: l => s ++ 44 :: 32 :: commaX l
def kidX (l : List (Int × List UInt8)) (i : Nat) (want : Int) : List UInt8 := match l[i]? with | some p => atX want p | none => []
def listX (l : List (Int × List UInt8)) : List UInt8 := commaX (l.map (atX 1))
def bodyX (k n : Int) (nm : List UInt8) (l : List (Int × List UInt8)) : List UInt8 :=
  if k = 1 then Lib.itoa n
  else if k = 2 then [110, 117, 108, 108]
  else if k = 3 then [116, 104, 105, 115]
  else if k = 4 then nm
  else if k = 5 then [110, 101, 119, 32] ++ nm ++ [40, 41]
  else if k = 6 then [110, 101, 119, 32, 105, 110, 116, 91] ++ listX l ++ [93]
  else if k = 7 then kidX l 0 4 ++ [46] ++ nm
  else if k = 8 then kidX l 0 4 ++ [91] ++ listX (l.drop 1) ++ [93]
  else if k = 9 then kidX l 0 4 ++ [46, 108, 101, 110, 103, 116, 104]
  else if k = 10 then kidX l 0 4 ++ [46] ++ nm ++ [40] ++ listX (l.drop 1) ++ [41]
  else if k = 11 then [114, 101, 97, 100, 40] ++ Lib.itoa n ++ [41]
  else if k = 12 then [100, 101, 99, 108, 97, 115, 115, 105, 102, 121, 40] ++ listX l ++ [41]
  else kidX l 0 (max (levX k) 2) ++ (shapeOf k).1.sign.data.toList ++ kidX l 1 (levX k + 1)
mutual
def textX : Expr → List UInt8
  | ⟨k, n, nm, kids⟩ => bodyX k n nm.data.toList (textsX kids)
def textsX : List Expr → List (Int × List UInt8)
  | [] => []
  | x :: l => (levX x.kind, textX x) :: textsX l
end
theorem textsX_map (l : List Expr) : textsX l = l.map fun x => (levX x.kind, textX x) := by induction l with | nil => rfl | cons x l ih => simp [textsX, ih]
def exprX (x : Expr) (want : Int) : List UInt8 := atX want (levX x.kind, textX x)
theorem kidX_at {l : List Expr} {i : Nat} {x : Expr} (h : l[i]? = some x) (want : Int) : kidX (textsX l) i want = exprX x want := by
  unfold kidX
  rw [textsX_map, List.getElem?_map, h]
  rfl
def listE (l : List Expr) : List UInt8 := commaX (l.map (exprX · 1))
theorem listX_eq (l : List Expr) : listX (textsX l) = listE l := by
  unfold listX listE
  rw [textsX_map, List.map_map]
  rfl
theorem listX_drop (l : List Expr) (i : Nat) : listX ((textsX l).drop i) = listE (l.drop i) := by
  rw [← listX_eq, textsX_map, textsX_map, List.map_drop]
theorem textX_eq (x : Expr) : textX x = bodyX x.kind x.num x.name.data.toList (textsX x.kids) := by cases x; rfl
theorem commaX_snoc : ∀ (l : List (List UInt8)) (s : List UInt8), commaX (l ++ [s]) = commaX l ++ (if l.isEmpty then [] else [44, 32]) ++ s
  | [], s => by simp [commaX]
  | [a], s => by simp [commaX]
  | a :: b :: l, s => by
    have := commaX_snoc (b :: l) s
    simp only [List.cons_append] at this
    simp only [List.cons_append, commaX, this]
    simp
theorem commaX_take {l : List Expr} {k : Nat} {x : Expr} (h : l[k]? = some x) : commaX ((l.map (exprX · 1)).take (k + 1)) = commaX ((l.map (exprX · 1)).take k) ++ (if k = 0 then [] else [44, 32]) ++ exprX x 1 := by
  have hk : k < l.length := (List.getElem?_eq_some_iff.1 h).1
  have : (l.map (exprX · 1)).take (k + 1) = (l.map (exprX · 1)).take k ++ [exprX x 1] := by
    rw [List.take_add_one, List.getElem?_map, h]
    rfl
  rw [this, commaX_snoc]
  have : ((l.map (exprX · 1)).take k).isEmpty = decide (k = 0) := by
    cases k with
    | zero => simp
    | succ k => cases l with
      | nil => simp at hk
      | cons a l => simp
  rw [this]
  by_cases hk0 : k = 0 <;> simp [hk0]
theorem commaX_le : ∀ (l : List (List UInt8)) (k : Nat), (commaX (l.take k)).length ≤ (commaX l).length
  | [], k => by simp
  | [a], 0 => by simp [commaX]
  | [a], k + 1 => by simp
  | a :: b :: l, 0 => by simp [commaX]
  | a :: b :: l, 1 => by simp [commaX]
  | a :: b :: l, k + 2 => by
    have := commaX_le (b :: l) (k + 1)
    simp only [List.take_succ_cons] at this ⊢
    simp only [commaX, List.length_append, List.length_cons] at this ⊢
    omega
end V
end Go.Proofs.YtbmbmcdaabhgnaaDoor
end
