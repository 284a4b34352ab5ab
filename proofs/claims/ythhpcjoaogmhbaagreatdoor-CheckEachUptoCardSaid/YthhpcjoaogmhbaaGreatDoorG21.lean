/- Joined by my own program, in build order: Round. -/
import Derived.Test.YthhpcjoaogmhbaaGreatDoorChecked
import Derived.OrdersIn
import Derived.OrdersHeld
import Derived.TacticsIn
import Derived.Deep.Quiet
import Derived.RangeFuncCalls
import Derived.WalkKit
set_option linter.unusedVariables false
set_option linter.unusedSimpArgs false
section
namespace Go.Proofs.YthhpcjoaogmhbaaGreatDoor
open Go.RowKit Go
def lq (ops : Array Oper) : Bool := ops.all fun o => match o.op with | .defer _ => false | _ => true
theorem vP {ops : Array Oper} (h : lq ops = true) {i : Nat} {o : Oper} (hi : ops[i]? = some o) (c : Call) : o.op ≠ .defer c := by
 intro e
 have hm := Array.all_eq_true'.1 h o (Array.mem_of_getElem? hi)
 rw [e] at hm
 cases hm
section
variable {P : Go.Program} {l n : Nat} {ops : Array Oper} {Q : Exit → Act → World → Prop} {md : Region.Mode}
theorem GD {row : String} {args : Array Value} {w : World} {R : Value → World → Prop} (h : Rows P row args w R) : RowsIn (Fence.wide.inRound l) n P row args w R :=
 fun c cs _ => let ⟨v, w', r, s⟩ := h c cs; ⟨v, w', r, stepsIn_wide.2 s⟩
theorem zS {o : Oper} {a : Act} {w : World} {K : Act → World → Prop} (hd : ∀ c, o.op ≠ .defer c) (h : o.wp P a w K Q) : o.wpIn (Fence.wide.inRound l) n P a w K Q := by
 unfold Oper.wp at h
 unfold Oper.wpIn
 refine ⟨fun _ _ => trivial, ?_⟩
 rw [Fence.inRound_round, Oper.semAt_some l a.eval o hd]
 generalize (execOp a.eval o).run P w = r at *
 cases r with
 | ok x w' =>
   cases x with
   | value v => exact h
   | skip => exact h
   | defer d => exact h
   | enter f args => exact ⟨fun k => (by cases k), (callsIn_wide (n := n - 1)).2 h⟩
   | row row args => exact ⟨fun k => (by cases k), GD h⟩
   | _ => exact h.elim
 | halt x w' => cases x <;> first | exact h | exact h.elim
theorem Gc {i : Nat} {a : Act} {w : World} {K : Act → World → Prop} (hL : ¬ LetsOut Q) (hd : lq ops = true) (h : wpOp P ops Q i K a w) : wpOpIn (Fence.wide.inRound l) n P ops Q i K a w := by
 unfold wpOp at h
 unfold wpOpIn
 cases hi : ops[i]? with
 | none => simp only [hi] at h ⊢; exact h
 | some o =>
   simp only [hi] at h ⊢
   split
   ·rename_i hw; simp only [hw, if_true] at h; exact zS (vP hd hi) (h.resolve_right fun k => hL k.2)
   ·rename_i hw; simp only [hw] at h; exact ⟨fun _ _ => trivial, h⟩
theorem xJ (hL : ¬ LetsOut Q) (hd : lq ops = true) : ∀ (f : Nat) (listed : Array Bool) (a : Act) (w : World), wpAny P md ops Q f listed a w → wpAnyIn (Fence.wide.inRound l) n P md ops Q f listed a w
 | 0, _, _, _, h => h
 | f + 1, _, _, _, h => ⟨h.1, fun i hi => wpOpIn_mono (fun a' w' h' => xJ hL hd f _ a' w' h') (Gc hL hd (h.2 i hi))⟩
theorem uG {id : Nat} {a : Act} {w : World} (hL : ¬ LetsOut Q) (hm : P.follows .mixedOrders = true) (hd : lq ops = true)
 (h : wpAny P .any ops Q ops.size (Array.replicate ops.size false) a { w with drawn := w.drawn + 1 }) : (Code.region id ops true).wpIn (Fence.wide.inRound l) n P Q a w :=
 wpIn_region_any hm (xJ hL hd _ _ _ _ h)
end
end Go.Proofs.YthhpcjoaogmhbaaGreatDoor
end
