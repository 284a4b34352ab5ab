/- Joined by my own program, in build order: Ing. -/
import Derived.Test.YtcldeoolglhdoaaDoorChecked
set_option linter.unusedVariables false
set_option linter.unusedSimpArgs false
section
set_option linter.unusedVariables false
namespace Go.Proofs.YtcldeoolglhdoaaDoor
namespace C17
structure Ins where
  kind : Int
  dst : Int
  a : Int
  b : Int
  c : Int
  tt : Int
  els : Int
  num : Int
  name : ByteArray
  args : List Int
def goesI (i : Nat) (x : Ins) : List Int :=
  if x.kind = 18 ∨ x.kind = 19 then [] else if x.kind = 17 ∨ (x.kind = 16 ∧ x.tt = x.els) then [x.tt] else if x.kind = 16 then [x.tt, x.els] else [((i + 1 : Nat) : Int)]
def nx (code : List Ins) (i : Nat) : List Int := match code[i]? with
  | none => []
  | some x => goesI i x
theorem goesI_len (i : Nat) (x : Ins) : (goesI i x).length ≤ 2 := by unfold goesI; split <;> (try split) <;> (try split) <;> simp
theorem nx_len (code : List Ins) (i : Nat) : (nx code i).length ≤ 2 := by unfold nx; split; simp; exact goesI_len _ _
def outI (n k : Int) : Bool := decide (k < 0) || decide (n ≤ k)
def edI (code : List Ins) (i : Nat) : List (Nat × Nat) := match nx code i with
  | [] => [(i, code.length)]
  | k :: r => (k :: r).map fun z => (i, z.toNat)
def e1 (code : List Ins) (m : Nat) : List (Nat × Nat) := (List.range m).flatMap (edI code)
end C17
end Go.Proofs.YtcldeoolglhdoaaDoor
end
