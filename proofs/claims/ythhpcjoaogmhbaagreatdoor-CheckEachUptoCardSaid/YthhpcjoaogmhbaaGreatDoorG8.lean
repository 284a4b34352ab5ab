/- Joined by my own program, in build order: Shape. -/
import Derived.Test.YthhpcjoaogmhbaaGreatDoorG7
set_option linter.unusedVariables false
set_option linter.unusedSimpArgs false
section
namespace Go.Proofs.YthhpcjoaogmhbaaGreatDoor
open Go.RowKit
structure Shape where
 least : Int
 most : Int
 name : Bool
 num : Int
 level : Int
 sign : ByteArray
def Shape.val (s : Shape) : Value := .agg #[.int .i64 s.least, .int .i64 s.most, .bool s.name, .int .i64 s.num, .int .i64 s.level, .string s.sign]
theorem Tx (w : World) : Calls Tryz.prog 63 #[.int .i64 1] w fun e w' => e = .returned (.tuple #[Shape.val ⟨0, 0, false, 9223372036854775807, 4, ⟨#[]⟩⟩, .bool true]) ∧ Below w.heap.size w w' := by
 go_enter Tryz.func63, Tryz.ntmps63
 go_wp2
 skip
 go_returns
 exact ⟨rfl, by go_grown⟩
theorem TJ (w : World) : Calls Tryz.prog 63 #[.int .i64 2] w fun e w' => e = .returned (.tuple #[Shape.val ⟨0, 0, false, 0, 4, ⟨#[]⟩⟩, .bool true]) ∧ Below w.heap.size w w' := by
 go_enter Tryz.func63, Tryz.ntmps63
 go_wp2
 skip
 go_returns
 exact ⟨rfl, by go_grown⟩
theorem TA (w : World) : Calls Tryz.prog 63 #[.int .i64 3] w fun e w' => e = .returned (.tuple #[Shape.val ⟨0, 0, false, 0, 4, ⟨#[]⟩⟩, .bool true]) ∧ Below w.heap.size w w' := by
 go_enter Tryz.func63, Tryz.ntmps63
 go_wp2
 skip
 go_returns
 exact ⟨rfl, by go_grown⟩
theorem TG (w : World) : Calls Tryz.prog 63 #[.int .i64 4] w fun e w' => e = .returned (.tuple #[Shape.val ⟨0, 0, true, 0, 4, ⟨#[]⟩⟩, .bool true]) ∧ Below w.heap.size w w' := by
 go_enter Tryz.func63, Tryz.ntmps63
 go_wp2
 skip
 go_returns
 exact ⟨rfl, by go_grown⟩
theorem Tt (w : World) : Calls Tryz.prog 63 #[.int .i64 5] w fun e w' => e = .returned (.tuple #[Shape.val ⟨0, 0, true, 0, 4, ⟨#[]⟩⟩, .bool true]) ∧ Below w.heap.size w w' := by
 go_enter Tryz.func63, Tryz.ntmps63
 go_wp2
 skip
 go_returns
 exact ⟨rfl, by go_grown⟩
theorem TH (w : World) : Calls Tryz.prog 63 #[.int .i64 6] w fun e w' => e = .returned (.tuple #[Shape.val ⟨1, 1, false, 0, 4, ⟨#[]⟩⟩, .bool true]) ∧ Below w.heap.size w w' := by
 go_enter Tryz.func63, Tryz.ntmps63
 go_wp2
 skip
 go_returns
 exact ⟨rfl, by go_grown⟩
theorem TD (w : World) : Calls Tryz.prog 63 #[.int .i64 7] w fun e w' => e = .returned (.tuple #[Shape.val ⟨1, 1, true, 0, 4, ⟨#[]⟩⟩, .bool true]) ∧ Below w.heap.size w w' := by
 go_enter Tryz.func63, Tryz.ntmps63
 go_wp2
 skip
 go_returns
 exact ⟨rfl, by go_grown⟩
theorem Tz (w : World) : Calls Tryz.prog 63 #[.int .i64 8] w fun e w' => e = .returned (.tuple #[Shape.val ⟨2, 2, false, 0, 4, ⟨#[]⟩⟩, .bool true]) ∧ Below w.heap.size w w' := by
 go_enter Tryz.func63, Tryz.ntmps63
 go_wp2
 skip
 go_returns
 exact ⟨rfl, by go_grown⟩
theorem Tw (w : World) : Calls Tryz.prog 63 #[.int .i64 9] w fun e w' => e = .returned (.tuple #[Shape.val ⟨1, 1, false, 0, 4, ⟨#[]⟩⟩, .bool true]) ∧ Below w.heap.size w w' := by
 go_enter Tryz.func63, Tryz.ntmps63
 go_wp2
 skip
 go_returns
 exact ⟨rfl, by go_grown⟩
theorem SA (w : World) : Calls Tryz.prog 63 #[.int .i64 10] w fun e w' => e = .returned (.tuple #[Shape.val ⟨1, 5, true, 0, 4, ⟨#[]⟩⟩, .bool true]) ∧ Below w.heap.size w w' := by
 go_enter Tryz.func63, Tryz.ntmps63
 go_wp2
 skip
 go_returns
 exact ⟨rfl, by go_grown⟩
theorem RU (w : World) : Calls Tryz.prog 63 #[.int .i64 11] w fun e w' => e = .returned (.tuple #[Shape.val ⟨0, 0, false, 99, 4, ⟨#[]⟩⟩, .bool true]) ∧ Below w.heap.size w w' := by
 go_enter Tryz.func63, Tryz.ntmps63
 go_wp2
 skip
 go_returns
 exact ⟨rfl, by go_grown⟩
theorem R3 (w : World) : Calls Tryz.prog 63 #[.int .i64 12] w fun e w' => e = .returned (.tuple #[Shape.val ⟨1, 1, false, 0, 4, ⟨#[]⟩⟩, .bool true]) ∧ Below w.heap.size w w' := by
 go_enter Tryz.func63, Tryz.ntmps63
 go_wp2
 skip
 go_returns
 exact ⟨rfl, by go_grown⟩
theorem Sv (w : World) : Calls Tryz.prog 63 #[.int .i64 13] w fun e w' => e = .returned (.tuple #[Shape.val ⟨2, 2, false, 0, 2, ⟨#[32, 43, 32]⟩⟩, .bool true]) ∧ Below w.heap.size w w' := by
 go_enter Tryz.func63, Tryz.ntmps63
 go_wp2
 (go_region; go_wp2)
 go_returns
 exact ⟨rfl, by go_grown⟩
theorem SS (w : World) : Calls Tryz.prog 63 #[.int .i64 14] w fun e w' => e = .returned (.tuple #[Shape.val ⟨2, 2, false, 0, 2, ⟨#[32, 45, 32]⟩⟩, .bool true]) ∧ Below w.heap.size w w' := by
 go_enter Tryz.func63, Tryz.ntmps63
 go_wp2
 (go_region; go_wp2)
 go_returns
 exact ⟨rfl, by go_grown⟩
theorem RQ (w : World) : Calls Tryz.prog 63 #[.int .i64 15] w fun e w' => e = .returned (.tuple #[Shape.val ⟨2, 2, false, 0, 3, ⟨#[32, 42, 32]⟩⟩, .bool true]) ∧ Below w.heap.size w w' := by
 go_enter Tryz.func63, Tryz.ntmps63
 go_wp2
 (go_region; go_wp2)
 go_returns
 exact ⟨rfl, by go_grown⟩
theorem RN (w : World) : Calls Tryz.prog 63 #[.int .i64 16] w fun e w' => e = .returned (.tuple #[Shape.val ⟨2, 2, false, 0, 3, ⟨#[32, 47, 32]⟩⟩, .bool true]) ∧ Below w.heap.size w w' := by
 go_enter Tryz.func63, Tryz.ntmps63
 go_wp2
 (go_region; go_wp2)
 go_returns
 exact ⟨rfl, by go_grown⟩
theorem RS (w : World) : Calls Tryz.prog 63 #[.int .i64 17] w fun e w' => e = .returned (.tuple #[Shape.val ⟨2, 2, false, 0, 1, ⟨#[32, 60, 32]⟩⟩, .bool true]) ∧ Below w.heap.size w w' := by
 go_enter Tryz.func63, Tryz.ntmps63
 go_wp2
 (go_region; go_wp2)
 go_returns
 exact ⟨rfl, by go_grown⟩
theorem Sr (w : World) : Calls Tryz.prog 63 #[.int .i64 18] w fun e w' => e = .returned (.tuple #[Shape.val ⟨2, 2, false, 0, 1, ⟨#[32, 61, 61, 32]⟩⟩, .bool true]) ∧ Below w.heap.size w w' := by
 go_enter Tryz.func63, Tryz.ntmps63
 go_wp2
 (go_region; go_wp2)
 go_returns
 exact ⟨rfl, by go_grown⟩
def shapes : List Shape := [
 ⟨0, 0, false, 9223372036854775807, 4, ⟨#[]⟩⟩,
 ⟨0, 0, false, 0, 4, ⟨#[]⟩⟩,
 ⟨0, 0, false, 0, 4, ⟨#[]⟩⟩,
 ⟨0, 0, true, 0, 4, ⟨#[]⟩⟩,
 ⟨0, 0, true, 0, 4, ⟨#[]⟩⟩,
 ⟨1, 1, false, 0, 4, ⟨#[]⟩⟩,
 ⟨1, 1, true, 0, 4, ⟨#[]⟩⟩,
 ⟨2, 2, false, 0, 4, ⟨#[]⟩⟩,
 ⟨1, 1, false, 0, 4, ⟨#[]⟩⟩,
 ⟨1, 5, true, 0, 4, ⟨#[]⟩⟩,
 ⟨0, 0, false, 99, 4, ⟨#[]⟩⟩,
 ⟨1, 1, false, 0, 4, ⟨#[]⟩⟩,
 ⟨2, 2, false, 0, 2, ⟨#[32, 43, 32]⟩⟩,
 ⟨2, 2, false, 0, 2, ⟨#[32, 45, 32]⟩⟩,
 ⟨2, 2, false, 0, 3, ⟨#[32, 42, 32]⟩⟩,
 ⟨2, 2, false, 0, 3, ⟨#[32, 47, 32]⟩⟩,
 ⟨2, 2, false, 0, 1, ⟨#[32, 60, 32]⟩⟩,
 ⟨2, 2, false, 0, 1, ⟨#[32, 61, 61, 32]⟩⟩]
def kZ : Shape := ⟨0, 0, false, 0, 4, ⟨#[]⟩⟩
def shapeOf (k : Int) : Shape × Bool := if 1 ≤ k ∧ k ≤ 18 then (shapes.getD (k - 1).toNat kZ, true) else (kZ, false)
theorem P8 (k : Int) (hk : ¬ (1 ≤ k ∧ k ≤ 18)) (w : World) : Calls Tryz.prog 63 #[.int .i64 k] w fun e w' => e = .returned (.tuple #[Shape.val kZ, .bool false]) ∧ Below w.heap.size w w' := by
 have h1 : (k == 1) = false := by simp; omega
 have h2 : (k == 2) = false := by simp; omega
 have h3 : (k == 3) = false := by simp; omega
 have h4 : (k == 4) = false := by simp; omega
 have h5 : (k == 5) = false := by simp; omega
 have h6 : (k == 6) = false := by simp; omega
 have h7 : (k == 7) = false := by simp; omega
 have h8 : (k == 8) = false := by simp; omega
 have h9 : (k == 9) = false := by simp; omega
 have h10 : (k == 10) = false := by simp; omega
 have h11 : (k == 11) = false := by simp; omega
 have h12 : (k == 12) = false := by simp; omega
 have h13 : (k == 13) = false := by simp; omega
 have h14 : (k == 14) = false := by simp; omega
 have h15 : (k == 15) = false := by simp; omega
 have h16 : (k == 16) = false := by simp; omega
 have h17 : (k == 17) = false := by simp; omega
 have h18 : (k == 18) = false := by simp; omega
 clear hk
 go_enter Tryz.func63, Tryz.ntmps63
 go_wp2
 go_returns
 exact ⟨rfl, by go_grown⟩
theorem Lm (k : Int) (w : World) : Calls Tryz.prog 63 #[.int .i64 k] w fun e w' => e = .returned (.tuple #[Shape.val (shapeOf k).1, .bool (shapeOf k).2]) ∧ Below w.heap.size w w' := by
 by_cases hk : 1 ≤ k ∧ k ≤ 18
 ·have hcase : k = 1 ∨ k = 2 ∨ k = 3 ∨ k = 4 ∨ k = 5 ∨ k = 6 ∨ k = 7 ∨ k = 8 ∨ k = 9 ∨ k = 10 ∨ k = 11 ∨ k = 12 ∨ k = 13 ∨ k = 14 ∨ k = 15 ∨ k = 16 ∨ k = 17 ∨ k = 18 := by omega
  rcases hcase with rfl | rfl | rfl | rfl | rfl | rfl | rfl | rfl | rfl | rfl | rfl | rfl | rfl | rfl | rfl | rfl | rfl | rfl
  ·exact Tx w
  ·exact TJ w
  ·exact TA w
  ·exact TG w
  ·exact Tt w
  ·exact TH w
  ·exact TD w
  ·exact Tz w
  ·exact Tw w
  ·exact SA w
  ·exact RU w
  ·exact R3 w
  ·exact Sv w
  ·exact SS w
  ·exact RQ w
  ·exact RN w
  ·exact RS w
  ·exact Sr w
 ·have h : shapeOf k = (kZ, false) := by unfold shapeOf; rw [if_neg hk]
  rw [h]
  exact P8 k hk w
end Go.Proofs.YthhpcjoaogmhbaaGreatDoor
end
