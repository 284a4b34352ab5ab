/- A number brought into a range, as the laws of the layers do it. -/
import Derived.Test.YtapdapidnnkpmaaChecked
import Derived.IntWalk
namespace Go.Proofs.Ytapdapidnnkpmaa
open Go.RowKit
theorem mod_in (r : Int) (N : Nat) (h0 : 1 ≤ N) (h1 : N ≤ 1000) : ∃ k : Nat, k < N ∧ (wrap64 (r.tmod (N : Int) + (N : Int))).tmod (N : Int) = k := by
  have hp : (0 : Int) < (N : Int) := by omega
  have a1 := Int.tmod_lt_of_pos r hp
  have a2 := Int.lt_tmod_of_pos r hp
  rw [IntWalk.wrap64_in _ (by omega)]
  have b1 := Int.tmod_lt_of_pos (r.tmod (N : Int) + (N : Int)) hp
  have b2 := Int.tmod_nonneg (a := r.tmod (N : Int) + (N : Int)) (N : Int) (by omega)
  exact ⟨((r.tmod (N : Int) + (N : Int)).tmod (N : Int)).toNat, by omega, by omega⟩
end Go.Proofs.Ytapdapidnnkpmaa
