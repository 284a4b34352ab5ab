/- Joined by my own program, in build order: Shape. -/
import Derived.Test.YtgaipdillmleeaaGreatX10
set_option linter.unusedVariables false
set_option linter.unusedSimpArgs false
section
namespace Go.Proofs.YtgaipdillmleeaaGreat
open Go.RowKit
structure Shape where
 least : Int
 most : Int
 name : Bool
 num : Int
 level : Int
 sign : ByteArray
def Shape.val (s : Shape) : Value := .agg #[.int .i64 s.least, .int .i64 s.most, .bool s.name, .int .i64 s.num, .int .i64 s.level, .string s.sign]
theorem abD (w : World) : Calls Tryz.prog 163 #[.int .i64 1] w fun e w' => e = .returned (.tuple #[Shape.val ⟨0, 0, false, 9223372036854775807, 4, ⟨#[]⟩⟩, .bool true]) ∧ Below w.heap.size w w' := by
 go_enter Tryz.func163, Tryz.ntmps163
 go_wp2
 skip
 go_returns
 exact ⟨rfl, by go_grown⟩
theorem acg (w : World) : Calls Tryz.prog 163 #[.int .i64 2] w fun e w' => e = .returned (.tuple #[Shape.val ⟨0, 0, false, 0, 4, ⟨#[]⟩⟩, .bool true]) ∧ Below w.heap.size w w' := by
 go_enter Tryz.func163, Tryz.ntmps163
 go_wp2
 skip
 go_returns
 exact ⟨rfl, by go_grown⟩
theorem abG (w : World) : Calls Tryz.prog 163 #[.int .i64 3] w fun e w' => e = .returned (.tuple #[Shape.val ⟨0, 0, false, 0, 4, ⟨#[]⟩⟩, .bool true]) ∧ Below w.heap.size w w' := by
 go_enter Tryz.func163, Tryz.ntmps163
 go_wp2
 skip
 go_returns
 exact ⟨rfl, by go_grown⟩
theorem ab0 (w : World) : Calls Tryz.prog 163 #[.int .i64 4] w fun e w' => e = .returned (.tuple #[Shape.val ⟨0, 0, true, 0, 4, ⟨#[]⟩⟩, .bool true]) ∧ Below w.heap.size w w' := by
 go_enter Tryz.func163, Tryz.ntmps163
 go_wp2
 skip
 go_returns
 exact ⟨rfl, by go_grown⟩
theorem abx (w : World) : Calls Tryz.prog 163 #[.int .i64 5] w fun e w' => e = .returned (.tuple #[Shape.val ⟨0, 0, true, 0, 4, ⟨#[]⟩⟩, .bool true]) ∧ Below w.heap.size w w' := by
 go_enter Tryz.func163, Tryz.ntmps163
 go_wp2
 skip
 go_returns
 exact ⟨rfl, by go_grown⟩
theorem ab1 (w : World) : Calls Tryz.prog 163 #[.int .i64 6] w fun e w' => e = .returned (.tuple #[Shape.val ⟨1, 1, false, 0, 4, ⟨#[]⟩⟩, .bool true]) ∧ Below w.heap.size w w' := by
 go_enter Tryz.func163, Tryz.ntmps163
 go_wp2
 skip
 go_returns
 exact ⟨rfl, by go_grown⟩
theorem abT (w : World) : Calls Tryz.prog 163 #[.int .i64 7] w fun e w' => e = .returned (.tuple #[Shape.val ⟨1, 1, true, 0, 4, ⟨#[]⟩⟩, .bool true]) ∧ Below w.heap.size w w' := by
 go_enter Tryz.func163, Tryz.ntmps163
 go_wp2
 skip
 go_returns
 exact ⟨rfl, by go_grown⟩
theorem abF (w : World) : Calls Tryz.prog 163 #[.int .i64 8] w fun e w' => e = .returned (.tuple #[Shape.val ⟨2, 2, false, 0, 4, ⟨#[]⟩⟩, .bool true]) ∧ Below w.heap.size w w' := by
 go_enter Tryz.func163, Tryz.ntmps163
 go_wp2
 skip
 go_returns
 exact ⟨rfl, by go_grown⟩
theorem abC (w : World) : Calls Tryz.prog 163 #[.int .i64 9] w fun e w' => e = .returned (.tuple #[Shape.val ⟨1, 1, false, 0, 4, ⟨#[]⟩⟩, .bool true]) ∧ Below w.heap.size w w' := by
 go_enter Tryz.func163, Tryz.ntmps163
 go_wp2
 skip
 go_returns
 exact ⟨rfl, by go_grown⟩
theorem ZQ (w : World) : Calls Tryz.prog 163 #[.int .i64 10] w fun e w' => e = .returned (.tuple #[Shape.val ⟨1, 5, true, 0, 4, ⟨#[]⟩⟩, .bool true]) ∧ Below w.heap.size w w' := by
 go_enter Tryz.func163, Tryz.ntmps163
 go_wp2
 skip
 go_returns
 exact ⟨rfl, by go_grown⟩
theorem Yx (w : World) : Calls Tryz.prog 163 #[.int .i64 11] w fun e w' => e = .returned (.tuple #[Shape.val ⟨0, 0, false, 99, 4, ⟨#[]⟩⟩, .bool true]) ∧ Below w.heap.size w w' := by
 go_enter Tryz.func163, Tryz.ntmps163
 go_wp2
 skip
 go_returns
 exact ⟨rfl, by go_grown⟩
theorem YN (w : World) : Calls Tryz.prog 163 #[.int .i64 12] w fun e w' => e = .returned (.tuple #[Shape.val ⟨1, 1, false, 0, 4, ⟨#[]⟩⟩, .bool true]) ∧ Below w.heap.size w w' := by
 go_enter Tryz.func163, Tryz.ntmps163
 go_wp2
 skip
 go_returns
 exact ⟨rfl, by go_grown⟩
theorem ZH (w : World) : Calls Tryz.prog 163 #[.int .i64 13] w fun e w' => e = .returned (.tuple #[Shape.val ⟨2, 2, false, 0, 2, ⟨#[32, 43, 32]⟩⟩, .bool true]) ∧ Below w.heap.size w w' := by
 go_enter Tryz.func163, Tryz.ntmps163
 go_wp2
 (go_region; go_wp2)
 go_returns
 exact ⟨rfl, by go_grown⟩
theorem aas (w : World) : Calls Tryz.prog 163 #[.int .i64 14] w fun e w' => e = .returned (.tuple #[Shape.val ⟨2, 2, false, 0, 2, ⟨#[32, 45, 32]⟩⟩, .bool true]) ∧ Below w.heap.size w w' := by
 go_enter Tryz.func163, Tryz.ntmps163
 go_wp2
 (go_region; go_wp2)
 go_returns
 exact ⟨rfl, by go_grown⟩
theorem Yq (w : World) : Calls Tryz.prog 163 #[.int .i64 15] w fun e w' => e = .returned (.tuple #[Shape.val ⟨2, 2, false, 0, 3, ⟨#[32, 42, 32]⟩⟩, .bool true]) ∧ Below w.heap.size w w' := by
 go_enter Tryz.func163, Tryz.ntmps163
 go_wp2
 (go_region; go_wp2)
 go_returns
 exact ⟨rfl, by go_grown⟩
theorem Ym (w : World) : Calls Tryz.prog 163 #[.int .i64 16] w fun e w' => e = .returned (.tuple #[Shape.val ⟨2, 2, false, 0, 3, ⟨#[32, 47, 32]⟩⟩, .bool true]) ∧ Below w.heap.size w w' := by
 go_enter Tryz.func163, Tryz.ntmps163
 go_wp2
 (go_region; go_wp2)
 go_returns
 exact ⟨rfl, by go_grown⟩
theorem Yr (w : World) : Calls Tryz.prog 163 #[.int .i64 17] w fun e w' => e = .returned (.tuple #[Shape.val ⟨2, 2, false, 0, 1, ⟨#[32, 60, 32]⟩⟩, .bool true]) ∧ Below w.heap.size w w' := by
 go_enter Tryz.func163, Tryz.ntmps163
 go_wp2
 (go_region; go_wp2)
 go_returns
 exact ⟨rfl, by go_grown⟩
theorem ZG (w : World) : Calls Tryz.prog 163 #[.int .i64 18] w fun e w' => e = .returned (.tuple #[Shape.val ⟨2, 2, false, 0, 1, ⟨#[32, 61, 61, 32]⟩⟩, .bool true]) ∧ Below w.heap.size w w' := by
 go_enter Tryz.func163, Tryz.ntmps163
 go_wp2
 (go_region; go_wp2)
 go_returns
 exact ⟨rfl, by go_grown⟩
def shapes : List Shape := [
 ⟨0, 0, false, 9223372036854775807, 4, ⟨#[]⟩⟩,
 ⟨0, 0, false, 0, 4, ⟨#[]⟩⟩,
 ⟨0, 0, false, 0, 4, ⟨#[]⟩⟩,
 ⟨0, 0, true, 0, 4, ⟨#[]⟩⟩,
 ⟨0, 0, true, 0, 4, ⟨#[]⟩⟩,
 ⟨1, 1, false, 0, 4, ⟨#[]⟩⟩,
 ⟨1, 1, true, 0, 4, ⟨#[]⟩⟩,
 ⟨2, 2, false, 0, 4, ⟨#[]⟩⟩,
 ⟨1, 1, false, 0, 4, ⟨#[]⟩⟩,
 ⟨1, 5, true, 0, 4, ⟨#[]⟩⟩,
 ⟨0, 0, false, 99, 4, ⟨#[]⟩⟩,
 ⟨1, 1, false, 0, 4, ⟨#[]⟩⟩,
 ⟨2, 2, false, 0, 2, ⟨#[32, 43, 32]⟩⟩,
 ⟨2, 2, false, 0, 2, ⟨#[32, 45, 32]⟩⟩,
 ⟨2, 2, false, 0, 3, ⟨#[32, 42, 32]⟩⟩,
 ⟨2, 2, false, 0, 3, ⟨#[32, 47, 32]⟩⟩,
 ⟨2, 2, false, 0, 1, ⟨#[32, 60, 32]⟩⟩,
 ⟨2, 2, false, 0, 1, ⟨#[32, 61, 61, 32]⟩⟩]
def lX : Shape := ⟨0, 0, false, 0, 4, ⟨#[]⟩⟩
def shapeOf (k : Int) : Shape × Bool := if 1 ≤ k ∧ k ≤ 18 then (shapes.getD (k - 1).toNat lX, true) else (lX, false)
theorem Sj (k : Int) (hk : ¬ (1 ≤ k ∧ k ≤ 18)) (w : World) : Calls Tryz.prog 163 #[.int .i64 k] w fun e w' => e = .returned (.tuple #[Shape.val lX, .bool false]) ∧ Below w.heap.size w w' := by
 have h1 : (k == 1) = false := by simp; omega
 have h2 : (k == 2) = false := by simp; omega
 have h3 : (k == 3) = false := by simp; omega
 have h4 : (k == 4) = false := by simp; omega
 have h5 : (k == 5) = false := by simp; omega
 have h6 : (k == 6) = false := by simp; omega
 have h7 : (k == 7) = false := by simp; omega
 have h8 : (k == 8) = false := by simp; omega
 have h9 : (k == 9) = false := by simp; omega
 have h10 : (k == 10) = false := by simp; omega
 have h11 : (k == 11) = false := by simp; omega
 have h12 : (k == 12) = false := by simp; omega
 have h13 : (k == 13) = false := by simp; omega
 have h14 : (k == 14) = false := by simp; omega
 have h15 : (k == 15) = false := by simp; omega
 have h16 : (k == 16) = false := by simp; omega
 have h17 : (k == 17) = false := by simp; omega
 have h18 : (k == 18) = false := by simp; omega
 clear hk
 go_enter Tryz.func163, Tryz.ntmps163
 go_wp2
 go_returns
 exact ⟨rfl, by go_grown⟩
theorem Xe (k : Int) (w : World) : Calls Tryz.prog 163 #[.int .i64 k] w fun e w' => e = .returned (.tuple #[Shape.val (shapeOf k).1, .bool (shapeOf k).2]) ∧ Below w.heap.size w w' := by
 by_cases hk : 1 ≤ k ∧ k ≤ 18
 ·have hcase : k = 1 ∨ k = 2 ∨ k = 3 ∨ k = 4 ∨ k = 5 ∨ k = 6 ∨ k = 7 ∨ k = 8 ∨ k = 9 ∨ k = 10 ∨ k = 11 ∨ k = 12 ∨ k = 13 ∨ k = 14 ∨ k = 15 ∨ k = 16 ∨ k = 17 ∨ k = 18 := by omega
  rcases hcase with rfl | rfl | rfl | rfl | rfl | rfl | rfl | rfl | rfl | rfl | rfl | rfl | rfl | rfl | rfl | rfl | rfl | rfl
  ·exact abD w
  ·exact acg w
  ·exact abG w
  ·exact ab0 w
  ·exact abx w
  ·exact ab1 w
  ·exact abT w
  ·exact abF w
  ·exact abC w
  ·exact ZQ w
  ·exact Yx w
  ·exact YN w
  ·exact ZH w
  ·exact aas w
  ·exact Yq w
  ·exact Ym w
  ·exact Yr w
  ·exact ZG w
 ·have h : shapeOf k = (lX, false) := by unfold shapeOf; rw [if_neg hk]
  rw [h];exact Sj k hk w
end Go.Proofs.YtgaipdillmleeaaGreat
end
