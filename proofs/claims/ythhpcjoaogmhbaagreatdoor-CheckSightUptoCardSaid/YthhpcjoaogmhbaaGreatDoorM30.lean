/- Joined by my own program, in build order: Vk, Vl, Vm, Vn, Vo, Vp, Vr, Vq, Bulk, Clone, Frz, Vs, Vu, Vw, VUp, Vran, GrowS, Cfn, Ccls. -/
import Derived.Test.YthhpcjoaogmhbaaGreatDoorM29
import Derived.Test.YthhpcjoaogmhbaaGreatDoorRows
import Derived.Test.YthhpcjoaogmhbaaGreatDoorM2
import Derived.Test.YthhpcjoaogmhbaaGreatDoorM4
import Derived.Test.YthhpcjoaogmhbaaGreatDoorM19
import Derived.Sort.LoopGhostIn
import Derived.Test.YthhpcjoaogmhbaaGreatDoorM17
import Derived.Test.YthhpcjoaogmhbaaGreatDoorM18
import Derived.Lib.Walk
import Derived.Lib.SliceRun
import Derived.Lib.AppendZerosOnto
import Derived.Test.YthhpcjoaogmhbaaGreatDoorM16
import Derived.Test.YthhpcjoaogmhbaaGreatDoorM22
import Derived.Test.YthhpcjoaogmhbaaGreatDoorM23
import Derived.Test.YthhpcjoaogmhbaaGreatDoorM24
set_option linter.unusedVariables false
set_option linter.unusedSimpArgs false
namespace Go.Proofs.YthhpcjoaogmhbaaGreatDoor
theorem zm30q1 {p : Prop} (h : p := by (first | rfl | (simp only [upd_app, killM_app, O.kill, A.kill, Nat.reduceEqDiff, reduceIte, Option.map_some, Option.map_none, List.map_cons, List.map_nil, cClass, fullM, memC, wrap_succ (show q + 1 < 9223372036854775808 by have := (hS c hc).2.1; omega)]; done))) : p := h
theorem zm30q2 {p : Prop} (h : p := by (have h1 := (hS kc (List.mem_of_getElem? hkc)).1; have h2 := fieldsUp_len hS ((upX cs (cs.length + 1) 0 c.name).take k); have h3 := List.length_take_le k (upX cs (cs.length + 1) 0 c.name); simp only [List.length_map, namesL]; omega)) : p := h
theorem zm30q3 {p : Prop} (h : p := by (first | rfl | (simp only [upd_app, killS_app, A.kill, entry_zero, entry_succ, Nat.reduceEqDiff, reduceIte, cClass, fullM, memC, wrap_succ (show q + 1 < 9223372036854775808 by have := (hS c hc).2.1; omega)]; done))) : p := h
theorem zm30q4 {p : Prop} (h : p := by (simp only [exb, Nat.reduceAdd, Nat.reduceLeDiff, Nat.reduceEqDiff, Nat.reduceMul, Int.reduceToNat, reduceIte, Int.reduceLE, Int.reduceNeg, fullM, memC, slotC, cClass, hd, hge, at_map ho, cMethod]; rfl)) : p := h
theorem zm30q5 {p : Prop} (h : p := by (simp only [exb, Nat.reduceAdd, Nat.reduceLeDiff, Nat.reduceEqDiff, Nat.reduceMul, Int.reduceToNat, reduceIte, Int.reduceLE, Int.reduceNeg, fullM, memC, slotC, cClass, at_map hy, cMethod]; rfl)) : p := h
theorem zm30q6 {p : Prop} (h : p := by (first | rfl | (simp only [upd_app, killM_app, O.kill, A.kill, Nat.reduceEqDiff, reduceIte, Option.map_some, Option.map_none, List.map_cons, List.map_nil, cClass, hF, fullM, memC]; done))) : p := h
theorem zm30q7 {p : Prop} (h : p := by (simp only [exb, Nat.reduceAdd, Nat.reduceLeDiff, Nat.reduceEqDiff, Nat.reduceMul, Int.reduceToNat, reduceIte, Int.reduceLE, Int.reduceNeg, fullM, memC, slotC, cClass, hkn', hse']; rfl)) : p := h
theorem zm30q8 {p : Prop} (h : p := by (first | rfl | (simp only [upd_app, killM_app, O.kill, A.kill, Nat.reduceEqDiff, reduceIte, Option.map_some, Option.map_none, List.map_cons, List.map_nil, cClass, fullM, memC]; done))) : p := h
theorem zm30q9 {p : Prop} (h : p := by (first | rfl | (simp only [exb, Nat.reduceAdd, Nat.reduceLeDiff, Nat.reduceEqDiff, Nat.reduceMul, Int.reduceToNat, reduceIte, Int.reduceLE, Int.reduceNeg, fullM, memC, slotC]; rfl))) : p := h
theorem zm30q10 {p : Prop} (h : p := by (simp only [exb, Nat.reduceAdd, Nat.reduceLeDiff, Nat.reduceEqDiff, Nat.reduceMul, Int.reduceToNat, reduceIte, Int.reduceLE, Int.reduceNeg, doneS, doneM, DID, memC, cClass]; rfl)) : p := h
theorem zm30q11 {p : Prop} (h : p := by (simp only [exb, Nat.reduceAdd, Nat.reduceLeDiff, Nat.reduceEqDiff, Nat.reduceMul, Int.reduceToNat, reduceIte, Int.reduceLE, Int.reduceNeg, fullM, memC, slotC, cClass, hd]; rfl)) : p := h
theorem zm30q12 {p : Prop} (h : p := by (simp only [exb, Nat.reduceAdd, Nat.reduceLeDiff, Nat.reduceEqDiff, Nat.reduceMul, Int.reduceToNat, reduceIte, Int.reduceLE, Int.reduceNeg, fullM, memC, slotC, cClass]; rfl)) : p := h
theorem zm30q13 {p : Prop} (h : p := by (simp only [exb, Nat.reduceAdd, Nat.reduceLeDiff, Nat.reduceEqDiff, Nat.reduceMul, Int.reduceToNat, reduceIte, Int.reduceLE, Int.reduceNeg, at_map hx, cMethod]; rfl)) : p := h
theorem zm30q14 {p : Prop} (h : p := by (simp only [exb, Nat.reduceAdd, Nat.reduceLeDiff, Nat.reduceEqDiff, Nat.reduceMul, Int.reduceToNat, reduceIte, Int.reduceLE, Int.reduceNeg, fullM, memC, slotC]; rfl)) : p := h
theorem zm30q15 {p : Prop} (h : p := by (simp only [exb, Nat.reduceAdd, Nat.reduceLeDiff, Nat.reduceEqDiff, Nat.reduceMul, Int.reduceToNat, reduceIte, Int.reduceLE, Int.reduceNeg, at_map hx, cClass]; rfl)) : p := h
theorem zm30q16 {p : Prop} (h : p := by (first | rfl | (simp only [exb, Nat.reduceAdd, Nat.reduceLeDiff, Nat.reduceEqDiff, Nat.reduceMul, Int.reduceToNat, reduceIte, Int.reduceLE, Int.reduceNeg]; rfl))) : p := h
theorem zm30q17 {p : Prop} (h : p := by (simp only [exb, Nat.reduceAdd, Nat.reduceLeDiff, Nat.reduceEqDiff, Nat.reduceMul, Int.reduceToNat, reduceIte, Int.reduceLE, Int.reduceNeg, foundC, cClass]; rfl)) : p := h
theorem zm30q18 {p : Prop} (h : p := by (simp only [exb, Nat.reduceAdd, Nat.reduceLeDiff, Nat.reduceEqDiff, Nat.reduceMul, Int.reduceToNat, reduceIte, Int.reduceLE, Int.reduceNeg, cMethod]; rfl)) : p := h
theorem zm30q19 {p : Prop} (h : p := by (simp only [exb, Nat.reduceAdd, Nat.reduceLeDiff, Nat.reduceEqDiff, Nat.reduceMul, Int.reduceToNat, reduceIte, Int.reduceLE, Int.reduceNeg, cClass]; rfl)) : p := h
theorem zm30q20 {p : Prop} (h : p := by (simp only [exb, Nat.reduceAdd, Nat.reduceLeDiff, Nat.reduceEqDiff, Nat.reduceMul, Int.reduceToNat, reduceIte, Int.reduceLE, Int.reduceNeg, cProg]; rfl)) : p := h
theorem zm30q21 {p : Prop} (h : p := by (simp only [exb, Nat.reduceAdd, Nat.reduceLeDiff, Nat.reduceEqDiff, Nat.reduceMul, Int.reduceToNat, reduceIte, Int.reduceLE, Int.reduceNeg, hl']; rfl)) : p := h
theorem zm30q22 {p : Prop} (h : p := by (simp only [exb, Nat.reduceAdd, Nat.reduceLeDiff, Nat.reduceEqDiff, Nat.reduceMul, Int.reduceToNat, reduceIte, Int.reduceLE, Int.reduceNeg, ht]; rfl)) : p := h
theorem zm30q23 {p : Prop} (h : p := by (simp only [exb, Nat.reduceAdd, Nat.reduceLeDiff, Nat.reduceEqDiff, Nat.reduceMul, Int.reduceToNat, reduceIte, Int.reduceLE, Int.reduceNeg, hs]; rfl)) : p := h
theorem zm30q24 {p : Prop} (h : p := by (first | rfl | (simp only [upd_app, killS_app, A.kill, entry_zero, entry_succ, Nat.reduceEqDiff, reduceIte, cClass, hF, fullM, memC]; done))) : p := h
theorem zm30q25 {p : Prop} (h : p := by (first | rfl | (simp only [upd_app, killS_app, A.kill, entry_zero, entry_succ, Nat.reduceEqDiff, reduceIte, cClass, fullM, memC]; done))) : p := h
theorem zm30q26 {p : Prop} (h : p := by (simp [A.ids, O.ids, upd_app, cClass, fullM, memC, wrap_succ (show q + 1 < 9223372036854775808 by have := (hS c hc).2.1; omega)])) : p := h
theorem zm30q27 {p : Prop} (h : p := by (simp [A.ids, upd_app, cClass, fullM, memC, wrap_succ (show q + 1 < 9223372036854775808 by have := (hS c hc).2.1; omega)])) : p := h
theorem zm30q28 {p : Prop} (h : p := by (simp [A.ids, O.ids, upd_app, cClass, fullM, memC])) : p := h
theorem zm30q29 {p : Prop} (h : p := by (simp [A.ids, upd_app, cClass, fullM, memC])) : p := h
end Go.Proofs.YthhpcjoaogmhbaaGreatDoor
section
namespace Go.Proofs.YthhpcjoaogmhbaaGreatDoor
namespace V
open Go.RowKit
def nameIs (name : ByteArray) (c : Class) : Bool := c.name.toList == name.toList
def classD (cs : List Class) (name : ByteArray) : Class := (cs.find? (nameIs name)).getD ⟨⟨#[]⟩, ⟨#[]⟩, [], []⟩
def foundC (cs : List Class) (name : ByteArray) : List C := cClass (classD cs name)
theorem find_none {α : Type} {p : α → Bool} {l : List α} {k : Nat} {x : α} (h : (l.take k).find? p = none) (hx : l[k]? = some x) : (p x = true → l.find? p = some x) ∧ (p x = false → (l.take (k + 1)).find? p = none) := by
 constructor
 ·intro hp
  have e : l = l.take k ++ (x :: l.drop (k + 1)) := by
   rw [← drop_of_getElem? hx, List.take_append_drop]
  rw [e, List.find?_append, h]
  simp [hp]
 ·intro hp
  rw [List.take_add_one, hx, List.find?_append, h]
  simp [hp]
theorem find_ok (cs : List Class) (mn : C) (name : ByteArray) (hlen : cs.length ≤ 1000000000000) (m : Mem) : COk Tryz.prog 46 [.agg [.sl (cs.map cClass), mn], .c (.str name)] m (.tup [(true, foundC cs name), (false, [.bool (cs.find? (nameIs name)).isSome])]) := by
 refine (ok_pure tab_ok Tryz.func46 (by kernel_rfl) rfl rfl (by rfl) (by rfl) (by rfl) (fun R hkeep => ?_) m)
 refine W.go ?_
 refine W.loop (ι := Nat) (fun k => ⟨upd (upd (upd (upd (upd (fun _ => .top) 1 (.c (.str name))) 4 (.ptr 4 0)) 9 (.c (.sl (cs.map cClass)))) 10 (.c (.int .i64 cs.length))) 11 (.c (.int .i64 k)), 
  upd Mem.nil 4 (some (.box 42 [.c (.str ⟨#[]⟩), .c (.str ⟨#[]⟩), .nil, .nil]))⟩) (fun k => k ≤ cs.length ∧ (cs.take k).find? (nameIs name) = none) (fun k => cs.length - k) 0 ?start ⟨Nat.zero_le _, rfl⟩ ?round
 case start =>
  exact le_D (kept_not hkeep)
 case round =>
  rintro k ⟨hk, hall⟩
  refine W.go ?_
  refine W.cond rfl ?_ ?_
  ·intro hlt
   simp only [decide_eq_true_eq, Int.ofNat_lt] at hlt
   obtain ⟨x, hx⟩ : ∃ x, cs[k]? = some x := ⟨_, List.getElem?_eq_getElem hlt⟩
   repeat (first | refine W.seq ?_ | refine W.block ?_ | refine W.skip ?_ | refine W.exit ?_ | refine W.g ?_ zm30q15)
   refine W.cond rfl ?_ ?_
   ·intro heq
    refine W.go ?_
    refine W.ret ⟨.inr rfl, by rfl, ?_⟩
    simp only [Tryz.f46, resA, resOne, toT, fin, exb, Nat.reduceAdd, Nat.reduceLeDiff, Nat.reduceEqDiff, Nat.reduceMul, Int.reduceToNat, reduceIte, Int.reduceLE, Int.reduceNeg]
    simp [(find_none hall hx).1 heq, foundC, classD, cClass]
   ·intro hne
    refine W.go ?_
    refine ⟨k + 1, ⟨hlt, (find_none hall hx).2 hne⟩, by omega, ?_⟩
    exact le_Sk (kept_not hkeep)
  ·intro hge
   simp only [decide_eq_false_iff_not, Int.ofNat_lt] at hge
   obtain rfl : k = cs.length := by omega
   rw [List.take_length] at hall
   refine W.go ?_
   refine W.ret ⟨.inr rfl, by rfl, ?_⟩
   simp only [Tryz.f46, resA, resOne, toT, fin, exb, Nat.reduceAdd, Nat.reduceLeDiff, Nat.reduceEqDiff, Nat.reduceMul, Int.reduceToNat, reduceIte, Int.reduceLE, Int.reduceNeg]
   simp [hall, foundC, classD, cClass]
def chainF (cs : List Class) : Nat → ByteArray → List ByteArray
 | 0, _ => []
 | k + 1, name => match cs.find? (nameIs name) with
   | none => []
   | some c => name :: chainF cs k c.super
def cStr (s : ByteArray) : List C := [.str s]
theorem chain_ok (cs : List Class) (mn : C) (name : ByteArray) (hlen : cs.length ≤ 1000000000) (m : Mem) : COk Tryz.prog 19 [.agg [.sl (cs.map cClass), mn], .c (.str name)] m (.c (.sl ((chainF cs (cs.length + 1) name).map cStr))) := by
 refine (ok_pure tab_ok Tryz.func19 (by kernel_rfl) rfl rfl (by rfl) (by rfl) (by rfl) (fun R hkeep => ?_) m)
 repeat (first | refine W.seq ?_ | refine W.block ?_ | refine W.skip ?_ | refine W.exit ?_ | refine W.g ?_ (by simp only [exb, Nat.reduceAdd, Nat.reduceLeDiff, Nat.reduceEqDiff, Nat.reduceMul, Int.reduceToNat, reduceIte, Int.reduceLE, Int.reduceNeg, wrap_succ (show cs.length + 1 < 9223372036854775808 by omega)]; rfl))
 refine W.newArr 5 5 9 1 rfl rfl ?_
 refine W.loop (ι := Nat × ByteArray × List ByteArray) (fun i => ⟨upd (upd (upd (upd (upd (fun _ => .top) 1 (.c (.str i.2.1))) 2 (.ptr 2 0)) 5 (.own 5)) 11 (.c (.int .i64 ((cs.length + 1 : Nat) : Int)))) 12 (.c (.int .i64 i.1)), 
  upd (upd Mem.nil 2 (some (.box 25 [.c (.sl (cs.map cClass)), .c mn]))) 5 (some (.arr 9 1 (i.2.2.map cStr)))⟩) (fun i => i.1 ≤ cs.length + 1 ∧ i.2.2.length = i.1 ∧ chainF cs (cs.length + 1) name = i.2.2 ++ chainF cs (cs.length + 1 - i.1) i.2.1) (fun i => cs.length + 1 - i.1) (0, name, []) ?start ⟨Nat.zero_le _, rfl, rfl⟩ ?round
 case start =>
  exact le_D (kept_not hkeep)
 case round =>
  rintro ⟨k, nm, acc⟩ ⟨hk, hl, hall⟩
  dsimp only at hk hl hall ⊢
  refine W.go ?_
  refine W.cond rfl ?_ ?_
  ·intro hlt
   simp only [decide_eq_true_eq, Int.ofNat_lt] at hlt
   refine W.go ?_
   cases hf : cs.find? (nameIs nm) with
   | none =>
     refine W.regionK tab_ok 0 (by decide) ?_
     refine xs0 2 ?_
     refine runk_call rfl rfl rfl rfl rfl (by simp) cw2 (find_ok cs mn nm (by omega) _) ?_
     refine runk_exec (by simp only [exb, Nat.reduceAdd, Nat.reduceLeDiff, Nat.reduceEqDiff, Nat.reduceMul, Int.reduceToNat, reduceIte, Int.reduceLE, Int.reduceNeg, foundC, hf, cClass, Option.isSome_none]; rfl) ?_
     refine W.go ?_
     refine W.cond rfl ?_ ?_
     ·intro _
      refine W.go ?_
      refine W.ret ⟨.inr rfl, by rfl, ?_⟩
      simp only [Tryz.f19, resA, resOne, toT, fin, exb, Nat.reduceAdd, Nat.reduceLeDiff, Nat.reduceEqDiff, Nat.reduceMul, Int.reduceToNat, reduceIte, Int.reduceLE, Int.reduceNeg]
      have e : cs.length + 1 - k = (cs.length - k) + 1 := by omega
      rw [hall, e]
      simp [chainF, hf]
     ·intro h; cases h
   | some c =>
     refine W.regionK tab_ok 0 (by decide) ?_
     refine xs0 2 ?_
     refine runk_call rfl rfl rfl rfl rfl (by simp) cw2 (find_ok cs mn nm (by omega) _) ?_
     refine runk_exec (by simp only [exb, Nat.reduceAdd, Nat.reduceLeDiff, Nat.reduceEqDiff, Nat.reduceMul, Int.reduceToNat, reduceIte, Int.reduceLE, Int.reduceNeg, foundC, hf, cClass, Option.isSome_some]; rfl) ?_
     refine W.go ?_
     refine W.cond rfl ?_ ?_
     ·intro h; cases h
     ·intro _
      refine W.go ?_
      refine W.regionK tab_ok 0 (by decide) ?_
      refine xs0 3 ?_
      refine runk_append tab_ok 5 rfl rfl rfl rfl rfl rfl rfl rfl zm30q16 rfl rfl rfl rfl (nokeep hkeep) (by simp) (by simp; omega) (by decide) ?_
      refine xe0 ?_
      refine W.go ?_
      refine ⟨(k + 1, (classD cs nm).super, acc ++ [nm]), ⟨hlt, by simp [hl], ?_⟩, by dsimp only; omega, ?_⟩
      ·have e : cs.length + 1 - k = (cs.length + 1 - (k + 1)) + 1 := by omega
       rw [hall, e]
       simp [chainF, hf, classD]
      refine le_L ?sle ?mle (kept_not hkeep)
      case mle => repeat (first | exact mle_nil _ | exact mle_refl _ | refine mle_upd ?_ (by first | rfl | (simp only [upd_app, killM_app, Nat.reduceEqDiff, reduceIte, wrap_succ (show k + 1 < 9223372036854775808 by omega), List.map_append, List.map_cons, List.map_nil, cStr]; done)))
      case sle => repeat (first | exact sle_top _ | exact sle_refl _ | refine sle_upd ?_ (by first | rfl | (simp only [upd_app, entry_zero, entry_succ, Nat.reduceEqDiff, reduceIte, wrap_succ (show k + 1 < 9223372036854775808 by omega), List.map_append, List.map_cons, List.map_nil, cStr]; done)))
  ·intro hge
   simp only [decide_eq_false_iff_not, Int.ofNat_lt] at hge
   obtain rfl : k = cs.length + 1 := by omega
   refine W.go ?_
   refine W.ret ⟨.inr rfl, by rfl, ?_⟩
   simp only [Tryz.f19, resA, resOne, toT, fin, exb, Nat.reduceAdd, Nat.reduceLeDiff, Nat.reduceEqDiff, Nat.reduceMul, Int.reduceToNat, reduceIte, Int.reduceLE, Int.reduceNeg]
   rw [hall]
   simp [chainF]
end V
end Go.Proofs.YthhpcjoaogmhbaaGreatDoor
end
section
namespace Go.Proofs.YthhpcjoaogmhbaaGreatDoor
namespace V
open Go.RowKit
def eqAt (l : List Slot) (i k : Nat) : Bool := match l[i]?, l[k]? with | some x, some y => x.name.toList == y.name.toList | _, _ => false
def twiceB (l : List Slot) : Bool := (List.range l.length).any fun i => (List.range i).any fun k => eqAt l i k
theorem any_range {p : Nat → Bool} {n i : Nat} (hi : i < n) (h : p i = true) : (List.range n).any p = true := List.any_eq_true.2 ⟨i, List.mem_range.2 hi, h⟩
theorem none_range {p : Nat → Bool} {n : Nat} (h : ∀ i < n, p i = false) : (List.range n).any p = false := List.any_eq_false.2 fun i hi => by simp [h i (List.mem_range.1 hi)]
theorem twice_ok (l : List Slot) (hlen : l.length ≤ 1000000000000) (m : Mem) : COk Tryz.prog 20 [.c (.sl (l.map cSlot))] m (.c (.bool (twiceB l))) := by
 refine (ok_pure tab_ok Tryz.func20 (by kernel_rfl) rfl rfl (by rfl) (by rfl) (by rfl) (fun R hkeep => ?_) m)
 refine W.go ?_
 refine W.loop (ι := Nat) (fun i => ⟨upd (upd (upd (fun _ => .top) 0 (.c (.sl (l.map cSlot)))) 6 (.c (.int .i64 l.length))) 7 (.c (.int .i64 i)), Mem.nil⟩)
  (fun i => i ≤ l.length ∧ ∀ j < i, (List.range j).any (eqAt l j) = false) (fun i => l.length - i) 0 ?start ⟨Nat.zero_le _, fun j hj => by omega⟩ ?round
 case start =>
  exact le_D (kept_not hkeep)
 case round =>
  rintro i ⟨hi, hall⟩
  refine W.go ?_
  refine W.cond rfl ?_ ?_
  ·intro hlt
   simp only [decide_eq_true_eq, Int.ofNat_lt] at hlt
   obtain ⟨x, hx⟩ : ∃ x, l[i]? = some x := ⟨_, List.getElem?_eq_getElem hlt⟩
   refine W.go ?_
   refine W.loop (ι := Nat) (fun k => ⟨upd (upd (upd (upd (upd (upd (fun _ => .top) 0 (.c (.sl (l.map cSlot)))) 6 (.c (.int .i64 l.length))) 7 (.c (.int .i64 i))) 3 (.c (.int .i64 i))) 10 (.c (.int .i64 i))) 11 (.c (.int .i64 k)), Mem.nil⟩)
    (fun k => k ≤ i ∧ ∀ j < k, eqAt l i j = false) (fun k => i - k) 0 ?start ⟨Nat.zero_le _, fun j hj => by omega⟩ ?round
   case start =>
    exact le_D (kept_not hkeep)
   case round =>
    rintro k ⟨hk, hin⟩
    refine W.go ?_
    refine W.cond rfl ?_ ?_
    ·intro hlk
     simp only [decide_eq_true_eq, Int.ofNat_lt] at hlk
     obtain ⟨y, hy⟩ : ∃ y, l[k]? = some y := ⟨_, List.getElem?_eq_getElem (by omega)⟩
     have he : eqAt l i k = (x.name.toList == y.name.toList) := by simp [eqAt, hx, hy]
     refine W.go ?_
     refine W.regionDK tab_ok 0 follows_mixed (by kernel_rfl) (by decide) ?_
     refine runk_exec (by simp only [exb, Nat.reduceAdd, Nat.reduceLeDiff, Nat.reduceEqDiff, Nat.reduceMul, Int.reduceToNat, reduceIte, Int.reduceLE, Int.reduceNeg, at_map hx, at_map hy, cSlot]; rfl) ?_
     refine W.cond rfl ?_ ?_
     ·intro heq
      refine W.go ?_
      refine W.ret ⟨.inr rfl, by rfl, ?_⟩
      simp only [Tryz.f20, resA, resOne, toT, fin, exb, Nat.reduceAdd, Nat.reduceLeDiff, Nat.reduceEqDiff, Nat.reduceMul, Int.reduceToNat, reduceIte, Int.reduceLE, Int.reduceNeg]
      have : twiceB l = true := any_range hlt (any_range hlk (he.trans heq))
      rw [this]
     ·intro hne
      refine W.go ?_
      refine ⟨k + 1, ⟨hlk, fun j hj => ?_⟩, by omega, ?_⟩
      ·rcases Nat.lt_succ_iff_lt_or_eq.1 hj with h | h
       ·exact hin j h
       ·subst h; exact he.trans hne
      exact le_Sk (kept_not hkeep)
    ·intro hge
     simp only [decide_eq_false_iff_not, Int.ofNat_lt] at hge
     obtain rfl : k = i := by omega
     refine W.go ?_
     refine ⟨k + 1, ⟨hlt, fun j hj => ?_⟩, by omega, ?_⟩
     ·rcases Nat.lt_succ_iff_lt_or_eq.1 hj with h | h
      ·exact hall j h
      ·subst h; exact none_range hin
     exact le_Sk (kept_not hkeep)
  ·intro hge
   simp only [decide_eq_false_iff_not, Int.ofNat_lt] at hge
   obtain rfl : i = l.length := by omega
   refine W.go ?_
   refine W.ret ⟨.inr rfl, by rfl, ?_⟩
   simp only [Tryz.f20, resA, resOne, toT, fin, exb, Nat.reduceAdd, Nat.reduceLeDiff, Nat.reduceEqDiff, Nat.reduceMul, Int.reduceToNat, reduceIte, Int.reduceLE, Int.reduceNeg]
   have : twiceB l = false := none_range hall
   rw [this]
end V
end Go.Proofs.YthhpcjoaogmhbaaGreatDoor
end
section
namespace Go.Proofs.YthhpcjoaogmhbaaGreatDoor
namespace V
open Go.RowKit
def typesL (l : List Slot) : List (List UInt8) := l.map fun s => s.type.toList
def likeB (x y : Method) : Bool := (x.type.toList == y.type.toList) && decide (typesL x.params = typesL y.params)
theorem typesL_ne {l m : List Slot} {i : Nat} {x y : Slot} (hx : l[i]? = some x) (hy : m[i]? = some y) (h : (x.type.toList == y.type.toList) = false) : decide (typesL l = typesL m) = false := by
 rw [decide_eq_false_iff_not]
 intro e
 have : (typesL l)[i]? = (typesL m)[i]? := by rw [e]
 simp [typesL, hx, hy] at this
 simp [this] at h
theorem typesL_eq {l m : List Slot} (hl : l.length = m.length) (h : ∀ (i : Nat) x y, l[i]? = some x → m[i]? = some y → (x.type.toList == y.type.toList) = true) : decide (typesL l = typesL m) = true := by
 rw [decide_eq_true_iff]
 apply List.ext_getElem?
 intro i
 simp only [typesL, List.getElem?_map]
 by_cases hi : i < l.length
 ·rw [List.getElem?_eq_getElem hi, List.getElem?_eq_getElem (by omega)]
  have := h i _ _ (List.getElem?_eq_getElem hi) (List.getElem?_eq_getElem (by omega : i < m.length))
  simpa using this
 ·rw [List.getElem?_eq_none (by omega), List.getElem?_eq_none (by omega)]
theorem like_ok (x y : Method) (hlen : x.params.length ≤ 1000000000000) (m : Mem) : COk Tryz.prog 48 [.agg (cMethod x), .agg (cMethod y)] m (.c (.bool (likeB x y))) := by
 refine (ok_pure tab_ok Tryz.func48 (by kernel_rfl) rfl rfl (by rfl) (by rfl) (by rfl) (fun R hkeep => ?_) m)
 repeat (first | refine W.seq ?_ | refine W.block ?_ | refine W.skip ?_ | refine W.exit ?_ | refine W.g ?_ zm30q18)
 refine W.regionK tab_ok 0 (by decide) ?_
 cases ht : (x.type.toList == y.type.toList) with
 | false =>
   refine runk_exec zm30q22 ?_
   refine W.go ?_
   refine W.cond rfl ?_ ?_
   ·intro _
    refine W.go ?_
    refine W.ret ⟨.inr rfl, by rfl, ?_⟩
    simp only [Tryz.f48, resA, resOne, toT, fin, exb, Nat.reduceAdd, Nat.reduceLeDiff, Nat.reduceEqDiff, Nat.reduceMul, Int.reduceToNat, reduceIte, Int.reduceLE, Int.reduceNeg]
    simp [likeB, ht]
   ·intro h; cases h
 | true =>
   refine runk_exec zm30q22 ?_
   refine W.go ?_
   refine W.cond rfl ?_ ?_
   ·intro hl
    refine W.go ?_
    refine W.ret ⟨.inr rfl, by rfl, ?_⟩
    simp only [Tryz.f48, resA, resOne, toT, fin, exb, Nat.reduceAdd, Nat.reduceLeDiff, Nat.reduceEqDiff, Nat.reduceMul, Int.reduceToNat, reduceIte, Int.reduceLE, Int.reduceNeg]
    have : decide (typesL x.params = typesL y.params) = false := by
     rw [decide_eq_false_iff_not]
     intro e
     have := congrArg List.length e
     simp [typesL] at this
     simp [this] at hl
    simp [likeB, this]
   ·intro hl
    have hll : x.params.length = y.params.length := by simp at hl; omega
    refine W.go ?_
    refine W.loop (ι := Nat) (fun k => ⟨upd (upd (upd (upd (fun _ => .top) 2 (.ptr 2 0)) 3 (.ptr 3 0)) 22 (.c (.int .i64 x.params.length))) 23 (.c (.int .i64 k)),
     upd (upd Mem.nil 2 (some (.box 44 ((cMethod x).map .c)))) 3 (some (.box 44 ((cMethod y).map .c)))⟩)
     (fun k => k ≤ x.params.length ∧ ∀ (i : Nat) u v, i < k → x.params[i]? = some u → y.params[i]? = some v → (u.type.toList == v.type.toList) = true) (fun k => x.params.length - k) 0 ?start ⟨Nat.zero_le _, fun i u v hi => by omega⟩ ?round
    case start =>
     exact le_D (kept_not hkeep)
    case round =>
     rintro k ⟨hk, hall⟩
     repeat (first | refine W.seq ?_ | refine W.block ?_ | refine W.skip ?_ | refine W.exit ?_ | refine W.g ?_ zm30q18)
     refine W.cond rfl ?_ ?_
     ·intro hlt
      simp only [decide_eq_true_eq, Int.ofNat_lt] at hlt
      obtain ⟨u, hu⟩ : ∃ u, x.params[k]? = some u := ⟨_, List.getElem?_eq_getElem hlt⟩
      obtain ⟨v, hv⟩ : ∃ v, y.params[k]? = some v := ⟨_, List.getElem?_eq_getElem (by omega)⟩
      refine W.go ?_
      refine W.regionDK tab_ok 0 follows_mixed (by kernel_rfl) (by decide) ?_
      refine runk_exec (by simp only [exb, Nat.reduceAdd, Nat.reduceLeDiff, Nat.reduceEqDiff, Nat.reduceMul, Int.reduceToNat, reduceIte, Int.reduceLE, Int.reduceNeg, at_map hu, at_map hv, cSlot, cMethod]; rfl) ?_
      refine W.cond rfl ?_ ?_
      ·intro hne
       refine W.go ?_
       refine W.ret ⟨.inr rfl, by rfl, ?_⟩
       simp only [Tryz.f48, resA, resOne, toT, fin, exb, Nat.reduceAdd, Nat.reduceLeDiff, Nat.reduceEqDiff, Nat.reduceMul, Int.reduceToNat, reduceIte, Int.reduceLE, Int.reduceNeg]
       simp [likeB, typesL_ne hu hv (by simpa using hne)]
      ·intro heq
       refine W.go ?_
       refine ⟨k + 1, ⟨hlt, fun i u' v' hi hu' hv' => ?_⟩, by omega, ?_⟩
       ·rcases Nat.lt_succ_iff_lt_or_eq.1 hi with h | h
        ·exact hall i u' v' h hu' hv'
        ·subst h
         rw [hu] at hu'; rw [hv] at hv'; cases hu'; cases hv'
         simpa using heq
       exact le_Sk (kept_not hkeep)
     ·intro hge
      simp only [decide_eq_false_iff_not, Int.ofNat_lt] at hge
      obtain rfl : k = x.params.length := by omega
      refine W.go ?_
      refine W.ret ⟨.inr rfl, by rfl, ?_⟩
      simp only [Tryz.f48, resA, resOne, toT, fin, exb, Nat.reduceAdd, Nat.reduceLeDiff, Nat.reduceEqDiff, Nat.reduceMul, Int.reduceToNat, reduceIte, Int.reduceLE, Int.reduceNeg]
      have := typesL_eq hll fun i u v hu hv => hall i u v (List.getElem?_eq_some_iff.1 hu).1 hu hv
      simp [likeB, ht, this]
end V
end Go.Proofs.YthhpcjoaogmhbaaGreatDoor
end
section
namespace Go.Proofs.YthhpcjoaogmhbaaGreatDoor
namespace V
open Go.RowKit
def methIs (name : ByteArray) (m : Method) : Bool := m.name.toList == name.toList
def methodF (cs : List Class) (name : ByteArray) : List ByteArray → Option (Method × ByteArray)
 | [] => none
 | n :: l => match (classD cs n).methods.find? (methIs name) with | some x => some (x, n) | none => methodF cs name l
def zeroMethod : Method := ⟨⟨#[]⟩, ⟨#[]⟩, [], []⟩
def methodC (o : Option (Method × ByteArray)) : List (Bool × List C) := match o with
 | some (x, n) => [(true, cMethod x), (false, [.str n]), (false, [.bool true])]
 | none => [(true, cMethod zeroMethod), (false, [.str ⟨#[]⟩]), (false, [.bool false])]
theorem methodF_cons {cs : List Class} {name n : ByteArray} {l : List ByteArray} (h : (classD cs n).methods.find? (methIs name) = none) : methodF cs name (n :: l) = methodF cs name l := by simp [methodF, h]
theorem method_ok (cs : List Class) (mn : C) (l : List ByteArray) (name : ByteArray) (hlen : cs.length ≤ 1000000000000) (hl : l.length ≤ 1000000000000) (hm : ∀ n, (classD cs n).methods.length ≤ 1000000000000) (m : Mem) :
 COk Tryz.prog 47 [.agg [.sl (cs.map cClass), mn], .c (.sl (l.map cStr)), .c (.str name)] m (.tup (methodC (methodF cs name l))) := by
 refine (ok_pure tab_ok Tryz.func47 (by kernel_rfl) rfl rfl (by rfl) (by rfl) (by rfl) (fun R hkeep => ?_) m)
 refine W.go ?_
 refine W.loop (ι := Nat) (fun k => ⟨upd (upd (upd (upd (upd (upd (fun _ => .top) 2 (.c (.str name))) 3 (.ptr 3 0)) 6 (.ptr 6 0)) 15 (.c (.sl (l.map cStr)))) 16 (.c (.int .i64 l.length))) 17 (.c (.int .i64 k)),
  upd (upd Mem.nil 3 (some (.box 25 [.c (.sl (cs.map cClass)), .c mn]))) 6 (some (.box 44 [.c (.str ⟨#[]⟩), .c (.str ⟨#[]⟩), .nil, .nil]))⟩)
  (fun k => k ≤ l.length ∧ methodF cs name l = methodF cs name (l.drop k)) (fun k => l.length - k) 0 ?start ⟨Nat.zero_le _, rfl⟩ ?round
 case start =>
  exact le_D (kept_not hkeep)
 case round =>
  rintro k ⟨hk, hall⟩
  refine W.go ?_
  refine W.cond rfl ?_ ?_
  ·intro hlt
   simp only [decide_eq_true_eq, Int.ofNat_lt] at hlt
   obtain ⟨n, hn⟩ : ∃ n, l[k]? = some n := ⟨_, List.getElem?_eq_getElem hlt⟩
   have hd := drop_of_getElem? hn
   have hmn := hm n
   repeat (first | refine W.seq ?_ | refine W.block ?_ | refine W.skip ?_ | refine W.exit ?_ | refine W.g ?_ (by simp only [exb, Nat.reduceAdd, Nat.reduceLeDiff, Nat.reduceEqDiff, Nat.reduceMul, Int.reduceToNat, reduceIte, Int.reduceLE, Int.reduceNeg, at_map hn, cStr]; rfl))
   refine W.regionK tab_ok 0 (by decide) ?_
   refine xs0 2 ?_
   refine runk_call rfl rfl rfl rfl rfl (by simp) cw2 (find_ok cs mn n hlen _) ?_
   refine runk_exec zm30q17 ?_
   refine W.go ?_
   refine W.loop (ι := Nat) (fun j => ⟨upd (upd (upd (upd (upd (upd (upd (upd (upd (upd (fun _ => .top) 2 (.c (.str name))) 3 (.ptr 3 0)) 6 (.ptr 6 0)) 15 (.c (.sl (l.map cStr)))) 16 (.c (.int .i64 l.length))) 17 (.c (.int .i64 k))) 10 (.c (.str n))) 28 (.c (.sl ((classD cs n).methods.map cMethod)))) 29 (.c (.int .i64 (classD cs n).methods.length))) 30 (.c (.int .i64 j)),
    upd (upd Mem.nil 3 (some (.box 25 [.c (.sl (cs.map cClass)), .c mn]))) 6 (some (.box 44 [.c (.str ⟨#[]⟩), .c (.str ⟨#[]⟩), .nil, .nil]))⟩)
    (fun j => j ≤ (classD cs n).methods.length ∧ ((classD cs n).methods.take j).find? (methIs name) = none) (fun j => (classD cs n).methods.length - j) 0 ?start ⟨Nat.zero_le _, rfl⟩ ?round
   case start =>
    exact le_D (kept_not hkeep)
   case round =>
    rintro j ⟨hj, hin⟩
    refine W.go ?_
    refine W.cond rfl ?_ ?_
    ·intro hlj
     simp only [decide_eq_true_eq, Int.ofNat_lt] at hlj
     obtain ⟨x, hx⟩ : ∃ x, (classD cs n).methods[j]? = some x := ⟨_, List.getElem?_eq_getElem hlj⟩
     repeat (first | refine W.seq ?_ | refine W.block ?_ | refine W.skip ?_ | refine W.exit ?_ | refine W.g ?_ zm30q13)
     refine W.cond rfl ?_ ?_
     ·intro heq
      refine W.go ?_
      refine W.ret ⟨.inr rfl, by rfl, ?_⟩
      simp only [Tryz.f47, resA, resOne, toT, fin, exb, Nat.reduceAdd, Nat.reduceLeDiff, Nat.reduceEqDiff, Nat.reduceMul, Int.reduceToNat, reduceIte, Int.reduceLE, Int.reduceNeg]
      rw [hall, hd]
      simp [methodF, methodC, (find_none hin hx).1 heq, cMethod]
     ·intro hne
      refine W.go ?_
      refine ⟨j + 1, ⟨hlj, (find_none hin hx).2 hne⟩, by omega, ?_⟩
      exact le_Sj (kept_not hkeep)
    ·intro hge
     simp only [decide_eq_false_iff_not, Int.ofNat_lt] at hge
     obtain rfl : j = (classD cs n).methods.length := by omega
     rw [List.take_length] at hin
     refine W.go ?_
     refine ⟨k + 1, ⟨hlt, by rw [hall, hd, methodF_cons hin]⟩, by omega, ?_⟩
     exact le_Sk (kept_not hkeep)
  ·intro hge
   simp only [decide_eq_false_iff_not, Int.ofNat_lt] at hge
   obtain rfl : k = l.length := by omega
   rw [List.drop_length] at hall
   refine W.go ?_
   refine W.ret ⟨.inr rfl, by rfl, ?_⟩
   simp only [Tryz.f47, resA, resOne, toT, fin, exb, Nat.reduceAdd, Nat.reduceLeDiff, Nat.reduceEqDiff, Nat.reduceMul, Int.reduceToNat, reduceIte, Int.reduceLE, Int.reduceNeg]
   rw [hall]
   simp [methodF, methodC, cMethod, zeroMethod, cStmts]
end V
end Go.Proofs.YthhpcjoaogmhbaaGreatDoor
end
section
namespace Go.Proofs.YthhpcjoaogmhbaaGreatDoor
namespace V
open Go.RowKit
def methRowB (cs : List Class) (above : List ByteArray) (l : List Method) (i : Nat) : Bool :=
 match l[i]? with
 | none => true
 | some x => !((l.take i).any fun o => o.name.toList == x.name.toList) && !((match methodF cs x.name above with | some (o, _) => !(likeB x o) | none => false) || twiceB x.params)
def methodsB (cs : List Class) (above : List ByteArray) (l : List Method) : Bool := (List.range l.length).all (methRowB cs above l)
theorem all_range {p : Nat → Bool} {n : Nat} (h : ∀ i < n, p i = true) : (List.range n).all p = true := List.all_eq_true.2 fun i hi => h i (List.mem_range.1 hi)
theorem not_range {p : Nat → Bool} {n i : Nat} (hi : i < n) (h : p i = false) : (List.range n).all p = false := List.all_eq_false.2 ⟨i, List.mem_range.2 hi, by simp [h]⟩
theorem any_take {α : Type} {p : α → Bool} {l : List α} {k : Nat} {x : α} (h : (l.take k).any p = false) (hx : l[k]? = some x) (hp : p x = false) : (l.take (k + 1)).any p = false := by
 rw [List.take_add_one, hx, List.any_append, h]
 simp [hp]
theorem any_at {α : Type} {p : α → Bool} {l : List α} {k i : Nat} {x : α} (hk : k < i) (hx : l[k]? = some x) (hp : p x = true) : (l.take i).any p = true :=
 List.any_eq_true.2 ⟨x, List.mem_of_getElem? (i := k) (by rw [List.getElem?_take, if_pos hk]; exact hx), hp⟩
theorem methods_ok (cs : List Class) (mn : C) (c : Class) (l : List ByteArray) (hlen : cs.length ≤ 1000000000000) (hl : l.length ≤ 1000000000000) (hm : ∀ n, (classD cs n).methods.length ≤ 1000000000000) (hc : c.methods.length ≤ 1000000000000) (hp : ∀ x ∈ c.methods, x.params.length ≤ 1000000000000) (m : Mem) :
 COk Tryz.prog 22 [.agg [.sl (cs.map cClass), mn], .agg (cClass c), .c (.sl (l.map cStr))] m (.c (.bool (methodsB cs l c.methods))) := by
 refine (ok_pure tab_ok Tryz.func22 (by kernel_rfl) rfl rfl (by rfl) (by rfl) (by rfl) (fun R hkeep => ?_) m)
 repeat (first | refine W.seq ?_ | refine W.block ?_ | refine W.skip ?_ | refine W.exit ?_ | refine W.g ?_ zm30q19)
 refine W.loop (ι := Nat) (fun k => ⟨upd (upd (upd (upd (upd (upd (fun _ => .top) 2 (.c (.sl (l.map cStr)))) 3 (.ptr 3 0)) 4 (.ptr 4 0)) 15 (.c (.sl (c.methods.map cMethod)))) 16 (.c (.int .i64 c.methods.length))) 17 (.c (.int .i64 k)),
  upd (upd Mem.nil 3 (some (.box 25 [.c (.sl (cs.map cClass)), .c mn]))) 4 (some (.box 42 ((cClass c).map .c)))⟩)
  (fun k => k ≤ c.methods.length ∧ ∀ i < k, methRowB cs l c.methods i = true) (fun k => c.methods.length - k) 0 ?start ⟨Nat.zero_le _, fun i hi => by omega⟩ ?round
 case start =>
  exact le_D (kept_not hkeep)
 case round =>
  rintro k ⟨hk, hall⟩
  refine W.go ?_
  refine W.cond rfl ?_ ?_
  ·intro hlt
   simp only [decide_eq_true_eq, Int.ofNat_lt] at hlt
   obtain ⟨x, hx⟩ : ∃ x, c.methods[k]? = some x := ⟨_, List.getElem?_eq_getElem hlt⟩
   have hpx := hp x (List.mem_of_getElem? hx)
   have hkl : k ≤ c.methods.length := hk
   repeat (first | refine W.seq ?_ | refine W.block ?_ | refine W.skip ?_ | refine W.exit ?_ | refine W.g ?_ (by simp only [exb, Nat.reduceAdd, Nat.reduceLeDiff, Nat.reduceEqDiff, Nat.reduceMul, Int.reduceToNat, reduceIte, Int.reduceLE, Int.reduceNeg, at_map hx, cMethod, cClass, Nat.zero_le, true_or, hkl, ← List.map_take, List.length_take, Nat.min_eq_left hkl]; rfl))
   refine W.loop (ι := Nat) (fun j => ⟨upd (upd (upd (upd (upd (upd (upd (upd (upd (upd (fun _ => .top) 2 (.c (.sl (l.map cStr)))) 3 (.ptr 3 0)) 4 (.ptr 4 0)) 15 (.c (.sl (c.methods.map cMethod)))) 16 (.c (.int .i64 c.methods.length))) 17 (.c (.int .i64 k))) 8 (.ptr 8 0)) 25 (.c (.sl ((c.methods.take k).map cMethod)))) 26 (.c (.int .i64 k))) 27 (.c (.int .i64 j)),
    upd (upd (upd Mem.nil 3 (some (.box 25 [.c (.sl (cs.map cClass)), .c mn]))) 4 (some (.box 42 ((cClass c).map .c)))) 8 (some (.box 44 ((cMethod x).map .c)))⟩)
    (fun j => j ≤ k ∧ (c.methods.take j).any (fun o => o.name.toList == x.name.toList) = false) (fun j => k - j) 0 ?start ⟨Nat.zero_le _, rfl⟩ ?round
   case start =>
    exact le_D (kept_not hkeep)
   case round =>
    rintro j ⟨hj, hin⟩
    refine W.go ?_
    refine W.cond rfl ?_ ?_
    ·intro hlj
     simp only [decide_eq_true_eq, Int.ofNat_lt] at hlj
     obtain ⟨y, hy⟩ : ∃ y, c.methods[j]? = some y := ⟨_, List.getElem?_eq_getElem (by omega)⟩
     have hy' : (c.methods.take k)[j]? = some y := by rw [List.getElem?_take, if_pos hlj]; exact hy
     repeat (first | refine W.seq ?_ | refine W.block ?_ | refine W.skip ?_ | refine W.exit ?_ | refine W.g ?_ (by simp only [exb, Nat.reduceAdd, Nat.reduceLeDiff, Nat.reduceEqDiff, Nat.reduceMul, Int.reduceToNat, reduceIte, Int.reduceLE, Int.reduceNeg, at_map hy', cMethod]; rfl))
     refine W.cond rfl ?_ ?_
     ·intro heq
      refine W.go ?_
      refine W.ret ⟨.inr rfl, by rfl, ?_⟩
      simp only [Tryz.f22, resA, resOne, toT, fin, exb, Nat.reduceAdd, Nat.reduceLeDiff, Nat.reduceEqDiff, Nat.reduceMul, Int.reduceToNat, reduceIte, Int.reduceLE, Int.reduceNeg]
      have : methodsB cs l c.methods = false := not_range hlt (by simp only [methRowB, hx]; rw [any_at hlj hy heq]; rfl)
      rw [this]
     ·intro hne
      refine W.go ?_
      refine ⟨j + 1, ⟨hlj, any_take hin hy hne⟩, by omega, ?_⟩
      exact le_Sj (kept_not hkeep)
    ·intro hge
     simp only [decide_eq_false_iff_not, Int.ofNat_lt] at hge
     obtain rfl : j = k := by omega
     have hrow : methRowB cs l c.methods j = !((match methodF cs x.name l with | some (o, _) => !(likeB x o) | none => false) || twiceB x.params) := by
      simp only [methRowB, hx]; rw [hin]; rfl
     refine W.go ?_
     refine W.regionK tab_ok 0 (by decide) ?_
     refine runk_split 4 zm30q18 ?_
     refine runk_call rfl rfl rfl rfl rfl (by simp) cw3 (method_ok cs mn l x.name hlen hl hm _) ?_
     cases hf : methodF cs x.name l with
     | none =>
       refine runk_exec (by simp only [exb, Nat.reduceAdd, Nat.reduceLeDiff, Nat.reduceEqDiff, Nat.reduceMul, Int.reduceToNat, reduceIte, Int.reduceLE, Int.reduceNeg, methodC, hf, cMethod, zeroMethod]; rfl) ?_
       rw [hf] at hrow
       refine W.go ?_
       refine W.regionK tab_ok 0 (by decide) ?_
       refine runk_split 10 zm30q18 ?_
       refine runk_call rfl rfl rfl rfl rfl (by simp) cw1 (twice_ok x.params hpx _) ?_
       refine xe0 ?_
       refine W.cond rfl ?_ ?_
       ·intro ht
        refine W.go ?_
        refine W.ret ⟨.inr rfl, by rfl, ?_⟩
        simp only [Tryz.f22, resA, resOne, toT, fin, exb, Nat.reduceAdd, Nat.reduceLeDiff, Nat.reduceEqDiff, Nat.reduceMul, Int.reduceToNat, reduceIte, Int.reduceLE, Int.reduceNeg]
        have : methodsB cs l c.methods = false := not_range hlt (by rw [hrow, ht]; rfl)
        rw [this]
       ·intro ht
        refine W.go ?_
        refine ⟨j + 1, ⟨hlt, fun i hi => ?_⟩, by omega, ?_⟩
        ·rcases Nat.lt_succ_iff_lt_or_eq.1 hi with h | h
         ·exact hall i h
         ·subst h; rw [hrow, ht]; rfl
        exact le_Sj (kept_not hkeep)
     | some p =>
       obtain ⟨o, nm⟩ := p
       rw [hf] at hrow
       refine runk_exec (by simp only [exb, Nat.reduceAdd, Nat.reduceLeDiff, Nat.reduceEqDiff, Nat.reduceMul, Int.reduceToNat, reduceIte, Int.reduceLE, Int.reduceNeg, methodC, hf, cMethod]; rfl) ?_
       refine W.go ?_
       refine W.regionK tab_ok 0 (by decide) ?_
       refine xs0 4 ?_
       refine runk_call rfl rfl rfl rfl rfl (by simp) cw2 (like_ok x o hpx _) ?_
       cases hlk : likeB x o with
       | false =>
         refine runk_exec (by simp only [exb, Nat.reduceAdd, Nat.reduceLeDiff, Nat.reduceEqDiff, Nat.reduceMul, Int.reduceToNat, reduceIte, Int.reduceLE, Int.reduceNeg, hlk]; rfl) ?_
         refine W.cond rfl ?_ ?_
         ·intro _
          refine W.go ?_
          refine W.ret ⟨.inr rfl, by rfl, ?_⟩
          simp only [Tryz.f22, resA, resOne, toT, fin, exb, Nat.reduceAdd, Nat.reduceLeDiff, Nat.reduceEqDiff, Nat.reduceMul, Int.reduceToNat, reduceIte, Int.reduceLE, Int.reduceNeg]
          have : methodsB cs l c.methods = false := not_range hlt (by rw [hrow]; simp [hlk])
          rw [this]
         ·intro h; cases h
       | true =>
         have hrow : methRowB cs l c.methods j = !(twiceB x.params) := by rw [hrow]; simp [hlk]
         refine runk_split 5 (by simp only [exb, Nat.reduceAdd, Nat.reduceLeDiff, Nat.reduceEqDiff, Nat.reduceMul, Int.reduceToNat, reduceIte, Int.reduceLE, Int.reduceNeg, hlk, cMethod]; rfl) ?_
         refine runk_call rfl rfl rfl rfl rfl (by simp) cw1 (twice_ok x.params hpx _) ?_
         refine xe0 ?_
         refine W.cond rfl ?_ ?_
         ·intro ht
          refine W.go ?_
          refine W.ret ⟨.inr rfl, by rfl, ?_⟩
          simp only [Tryz.f22, resA, resOne, toT, fin, exb, Nat.reduceAdd, Nat.reduceLeDiff, Nat.reduceEqDiff, Nat.reduceMul, Int.reduceToNat, reduceIte, Int.reduceLE, Int.reduceNeg]
          have : methodsB cs l c.methods = false := not_range hlt (by rw [hrow, ht]; rfl)
          rw [this]
         ·intro ht
          refine W.go ?_
          refine ⟨j + 1, ⟨hlt, fun i hi => ?_⟩, by omega, ?_⟩
          ·rcases Nat.lt_succ_iff_lt_or_eq.1 hi with h | h
           ·exact hall i h
           ·subst h; rw [hrow, ht]; rfl
          exact le_Sj (kept_not hkeep)
  ·intro hge
   simp only [decide_eq_false_iff_not, Int.ofNat_lt] at hge
   obtain rfl : k = c.methods.length := by omega
   refine W.go ?_
   refine W.ret ⟨.inr rfl, by rfl, ?_⟩
   simp only [Tryz.f22, resA, resOne, toT, fin, exb, Nat.reduceAdd, Nat.reduceLeDiff, Nat.reduceEqDiff, Nat.reduceMul, Int.reduceToNat, reduceIte, Int.reduceLE, Int.reduceNeg]
   rw [show methodsB cs l c.methods = true from all_range hall]
end V
end Go.Proofs.YthhpcjoaogmhbaaGreatDoor
end
section
namespace Go.Proofs.YthhpcjoaogmhbaaGreatDoor
namespace V
open Go.RowKit
def nameRowB (cs : List Class) (i : Nat) : Bool :=
 match cs[i]? with
 | none => true
 | some c => !((cs.take i).any fun d => c.name.toList == d.name.toList) && (c.super.toList == [] || (cs.find? (nameIs c.super)).isSome)
def namesB (cs : List Class) : Bool := (List.range cs.length).all (nameRowB cs)
theorem names_ok (cs : List Class) (mn : C) (hlen : cs.length ≤ 1000000000000) (m : Mem) : COk Tryz.prog 18 [.agg [.sl (cs.map cClass), mn]] m (.c (.bool (namesB cs))) := by
 refine (ok_pure tab_ok Tryz.func18 (by kernel_rfl) rfl rfl (by rfl) (by rfl) (by rfl) (fun R hkeep => ?_) m)
 refine W.go ?_
 refine W.loop (ι := Nat) (fun k => ⟨upd (upd (upd (upd (fun _ => .top) 1 (.ptr 1 0)) 10 (.c (.sl (cs.map cClass)))) 11 (.c (.int .i64 cs.length))) 12 (.c (.int .i64 k)),
  upd Mem.nil 1 (some (.box 25 [.c (.sl (cs.map cClass)), .c mn]))⟩)
  (fun k => k ≤ cs.length ∧ ∀ i < k, nameRowB cs i = true) (fun k => cs.length - k) 0 ?start ⟨Nat.zero_le _, fun i hi => by omega⟩ ?round
 case start =>
  exact le_D (kept_not hkeep)
 case round =>
  rintro k ⟨hk, hall⟩
  refine W.go ?_
  refine W.cond rfl ?_ ?_
  ·intro hlt
   simp only [decide_eq_true_eq, Int.ofNat_lt] at hlt
   obtain ⟨x, hx⟩ : ∃ x, cs[k]? = some x := ⟨_, List.getElem?_eq_getElem hlt⟩
   have hkl : k ≤ cs.length := hk
   repeat (first | refine W.seq ?_ | refine W.block ?_ | refine W.skip ?_ | refine W.exit ?_ | refine W.g ?_ (by simp only [exb, Nat.reduceAdd, Nat.reduceLeDiff, Nat.reduceEqDiff, Nat.reduceMul, Int.reduceToNat, reduceIte, Int.reduceLE, Int.reduceNeg, at_map hx, cClass, Nat.zero_le, true_or, hkl, ← List.map_take, List.length_take, Nat.min_eq_left hkl]; rfl))
   refine W.loop (ι := Nat) (fun j => ⟨upd (upd (upd (upd (upd (upd (upd (upd (fun _ => .top) 1 (.ptr 1 0)) 10 (.c (.sl (cs.map cClass)))) 11 (.c (.int .i64 cs.length))) 12 (.c (.int .i64 k))) 4 (.ptr 4 0)) 20 (.c (.sl ((cs.take k).map cClass)))) 21 (.c (.int .i64 k))) 22 (.c (.int .i64 j)),
    upd (upd Mem.nil 1 (some (.box 25 [.c (.sl (cs.map cClass)), .c mn]))) 4 (some (.box 42 ((cClass x).map .c)))⟩)
    (fun j => j ≤ k ∧ (cs.take j).any (fun d => x.name.toList == d.name.toList) = false) (fun j => k - j) 0 ?start ⟨Nat.zero_le _, rfl⟩ ?round
   case start =>
    exact le_D (kept_not hkeep)
   case round =>
    rintro j ⟨hj, hin⟩
    refine W.go ?_
    refine W.cond rfl ?_ ?_
    ·intro hlj
     simp only [decide_eq_true_eq, Int.ofNat_lt] at hlj
     obtain ⟨y, hy⟩ : ∃ y, cs[j]? = some y := ⟨_, List.getElem?_eq_getElem (by omega)⟩
     have hy' : (cs.take k)[j]? = some y := by rw [List.getElem?_take, if_pos hlj]; exact hy
     repeat (first | refine W.seq ?_ | refine W.block ?_ | refine W.skip ?_ | refine W.exit ?_ | refine W.g ?_ (by simp only [exb, Nat.reduceAdd, Nat.reduceLeDiff, Nat.reduceEqDiff, Nat.reduceMul, Int.reduceToNat, reduceIte, Int.reduceLE, Int.reduceNeg, at_map hy', cClass]; rfl))
     refine W.cond rfl ?_ ?_
     ·intro heq
      refine W.go ?_
      refine W.ret ⟨.inr rfl, by rfl, ?_⟩
      simp only [Tryz.f18, resA, resOne, toT, fin, exb, Nat.reduceAdd, Nat.reduceLeDiff, Nat.reduceEqDiff, Nat.reduceMul, Int.reduceToNat, reduceIte, Int.reduceLE, Int.reduceNeg]
      have : namesB cs = false := not_range hlt (by simp only [nameRowB, hx]; rw [any_at hlj hy heq]; rfl)
      rw [this]
     ·intro hne
      refine W.go ?_
      refine ⟨j + 1, ⟨hlj, any_take hin hy hne⟩, by omega, ?_⟩
      exact le_Sj (kept_not hkeep)
    ·intro hge
     simp only [decide_eq_false_iff_not, Int.ofNat_lt] at hge
     obtain rfl : j = k := by omega
     have hrow : nameRowB cs j = (x.super.toList == [] || (cs.find? (nameIs x.super)).isSome) := by
      simp only [nameRowB, hx]; rw [hin]; rfl
     refine W.go ?_
     refine W.regionK tab_ok 0 (by decide) ?_
     refine runk_split 3 zm30q19 ?_
     refine runk_call rfl rfl rfl rfl rfl (by simp) cw2 (find_ok cs mn x.super hlen _) ?_
     refine runk_exec zm30q17 ?_
     cases hs : (x.super.toList == []) with
     | true =>
       repeat (first | refine W.seq ?_ | refine W.block ?_ | refine W.skip ?_ | refine W.exit ?_ | refine W.g ?_ zm30q23)
       refine W.cond rfl ?_ ?_
       ·intro h; cases h
       ·intro _
        refine W.go ?_
        refine ⟨j + 1, ⟨hlt, fun i hi => ?_⟩, by omega, ?_⟩
        ·rcases Nat.lt_succ_iff_lt_or_eq.1 hi with h | h
         ·exact hall i h
         ·subst h; rw [hrow, hs]; rfl
        exact le_Sj (kept_not hkeep)
     | false =>
       repeat (first | refine W.seq ?_ | refine W.block ?_ | refine W.skip ?_ | refine W.exit ?_ | refine W.g ?_ zm30q23)
       refine W.cond rfl ?_ ?_
       ·intro ht
        refine W.go ?_
        refine W.ret ⟨.inr rfl, by rfl, ?_⟩
        simp only [Tryz.f18, resA, resOne, toT, fin, exb, Nat.reduceAdd, Nat.reduceLeDiff, Nat.reduceEqDiff, Nat.reduceMul, Int.reduceToNat, reduceIte, Int.reduceLE, Int.reduceNeg]
        have : namesB cs = false := not_range hlt (by rw [hrow, hs]; simpa using ht)
        rw [this]
       ·intro ht
        refine W.go ?_
        refine ⟨j + 1, ⟨hlt, fun i hi => ?_⟩, by omega, ?_⟩
        ·rcases Nat.lt_succ_iff_lt_or_eq.1 hi with h | h
         ·exact hall i h
         ·subst h; rw [hrow, hs]; simpa using ht
        exact le_Sj (kept_not hkeep)
  ·intro hge
   simp only [decide_eq_false_iff_not, Int.ofNat_lt] at hge
   obtain rfl : k = cs.length := by omega
   refine W.go ?_
   refine W.ret ⟨.inr rfl, by rfl, ?_⟩
   simp only [Tryz.f18, resA, resOne, toT, fin, exb, Nat.reduceAdd, Nat.reduceLeDiff, Nat.reduceEqDiff, Nat.reduceMul, Int.reduceToNat, reduceIte, Int.reduceLE, Int.reduceNeg]
   rw [show namesB cs = true from all_range hall]
def fieldsF (cs : List Class) (l : List ByteArray) : List Slot := l.reverse.flatMap fun n => (classD cs n).fields
theorem fields_ok (cs : List Class) (mn : C) (l : List ByteArray) (hlen : cs.length ≤ 1000000000000) (hl : l.length ≤ 1000000000000) (hf : (fieldsF cs l).length ≤ 1000000000) (m : Mem) :
 COk Tryz.prog 21 [.agg [.sl (cs.map cClass), mn], .c (.sl (l.map cStr))] m (.c (.sl ((fieldsF cs l).map cSlot))) := by
 refine (ok_pure tab_ok Tryz.func21 (by kernel_rfl) rfl rfl (by rfl) (by rfl) (by rfl) (fun R hkeep => ?_) m)
 repeat (first | refine W.seq ?_ | refine W.block ?_ | refine W.skip ?_ | refine W.exit ?_ | refine W.g ?_ (by simp only [exb, Nat.reduceAdd, Nat.reduceLeDiff, Nat.reduceEqDiff, Nat.reduceMul, Int.reduceToNat, reduceIte, Int.reduceLE, Int.reduceNeg, wrap_pred (show l.length < 9223372036854775808 by omega)]; rfl))
 refine W.newArr 5 5 35 2 rfl rfl ?_
 refine W.loop (ι := Nat) (fun k => ⟨upd (upd (upd (upd (fun _ => .top) 1 (.c (.sl (l.map cStr)))) 2 (.ptr 2 0)) 5 (.own 5)) 6 (.c (.int .i64 ((k : Int) - 1))),
  upd (upd Mem.nil 2 (some (.box 25 [.c (.sl (cs.map cClass)), .c mn]))) 5 (some (.arr 35 2 ((fieldsF cs (l.drop k)).map cSlot)))⟩)
  (fun k => k ≤ l.length) (fun k => k) l.length ?start (Nat.le_refl _) ?round
 case start =>
  refine le_L ?sle ?mle (kept_not hkeep)
  case mle => repeat (first | exact mle_nil _ | exact mle_refl _ | refine mle_upd ?_ (by first | rfl | (simp only [upd_app, killM_app, Nat.reduceEqDiff, reduceIte, List.drop_length, fieldsF, List.reverse_nil, List.flatMap_nil, List.map_nil]; done)))
  case sle => repeat (first | exact sle_top _ | exact sle_refl _ | refine sle_upd ?_ (by first | rfl | (simp only [upd_app, entry_zero, entry_succ, Nat.reduceEqDiff, reduceIte, List.drop_length, fieldsF, List.reverse_nil, List.flatMap_nil, List.map_nil]; done)))
 case round =>
  intro k hk
  cases k with
  | zero =>
    refine W.go ?_
    refine W.cond rfl ?_ ?_
    ·intro h; exact absurd h (by decide)
    ·intro _
     refine W.go ?_
     exact W.ret ⟨.inr rfl, by rfl, (by simp only [Tryz.f21, resA, resOne, toT, fin, exb, Nat.reduceAdd, Nat.reduceLeDiff, Nat.reduceEqDiff, Nat.reduceMul, Int.reduceToNat, reduceIte, Int.reduceLE, Int.reduceNeg])⟩
  | succ j =>
    obtain ⟨n, hn⟩ : ∃ n, l[j]? = some n := ⟨_, List.getElem?_eq_getElem (by omega)⟩
    have hd := drop_of_getElem? hn
    have hff : fieldsF cs (l.drop j) = fieldsF cs (l.drop (j + 1)) ++ (classD cs n).fields := by rw [hd]; simp [fieldsF]
    have hle : (fieldsF cs (l.drop j)).length ≤ (fieldsF cs l).length := by
     have : fieldsF cs l = fieldsF cs (l.drop j) ++ fieldsF cs (l.take j) := by
      unfold fieldsF
      rw [← List.flatMap_append, ← List.reverse_append, List.take_append_drop]
     rw [this, List.length_append]; omega
    have hl2 : (fieldsF cs (l.drop j)).length = (fieldsF cs (l.drop (j + 1))).length + (classD cs n).fields.length := by rw [hff, List.length_append]
    repeat (first | refine W.seq ?_ | refine W.block ?_ | refine W.skip ?_ | refine W.exit ?_ | refine W.g ?_ (by simp only [exb, Nat.reduceAdd, Nat.reduceLeDiff, Nat.reduceEqDiff, Nat.reduceMul, Int.reduceToNat, reduceIte, Int.reduceLE, Int.reduceNeg, int_pred]; rfl))
    refine W.cond rfl ?_ ?_
    ·intro _
     refine W.go ?_
     refine W.regionDK tab_ok 0 follows_mixed (by kernel_rfl) (by decide) ?_
     refine runk_split 5 (by simp only [exb, Nat.reduceAdd, Nat.reduceLeDiff, Nat.reduceEqDiff, Nat.reduceMul, Int.reduceToNat, reduceIte, Int.reduceLE, Int.reduceNeg, int_pred, at_map hn, cStr]; rfl) ?_
     refine runk_call rfl rfl rfl rfl rfl (by simp) cw2 (find_ok cs mn n hlen _) ?_
     refine runk_exec zm30q17 ?_
     refine W.go ?_
     refine W.regionK tab_ok 0 (by decide) ?_
     refine xs0 3 ?_
     refine runk_append tab_ok 5 rfl rfl rfl rfl rfl rfl rfl rfl zm30q16 rfl rfl rfl rfl (nokeep hkeep) (by simp [cSlot]) (by simp only [List.length_map]; omega) (by decide) ?_
     refine xe0 ?_
     repeat (first | refine W.seq ?_ | refine W.block ?_ | refine W.skip ?_ | refine W.exit ?_ | refine W.g ?_ (by simp only [exb, Nat.reduceAdd, Nat.reduceLeDiff, Nat.reduceEqDiff, Nat.reduceMul, Int.reduceToNat, reduceIte, Int.reduceLE, Int.reduceNeg, int_pred, wrap_pred (show j < 9223372036854775808 by omega)]; rfl))
     refine ⟨j, by omega, by omega, ?_⟩
     refine le_L ?sle ?mle (kept_not hkeep)
     case mle => repeat (first | exact mle_nil _ | exact mle_refl _ | refine mle_upd ?_ (by first | rfl | (simp only [upd_app, killM_app, Nat.reduceEqDiff, reduceIte, hff, List.map_append]; done)))
     case sle => repeat (first | exact sle_top _ | exact sle_refl _ | refine sle_upd ?_ (by first | rfl | (simp only [upd_app, entry_zero, entry_succ, Nat.reduceEqDiff, reduceIte, hff, List.map_append]; done)))
    ·intro h; simp at h
end V
end Go.Proofs.YthhpcjoaogmhbaaGreatDoor
end
section
namespace Go.Proofs.YthhpcjoaogmhbaaGreatDoor
namespace V
open Go.RowKit
def SmallC (cs : List Class) : Prop := ∀ c ∈ cs, c.fields.length ≤ 1048576 ∧ c.methods.length ≤ 1048576 ∧ ∀ m ∈ c.methods, m.params.length ≤ 1048576
theorem SmallC.classD {cs : List Class} (h : SmallC cs) (n : ByteArray) : (classD cs n).fields.length ≤ 1048576 ∧ (classD cs n).methods.length ≤ 1048576 := by
 unfold V.classD
 cases hf : cs.find? (nameIs n) with
 | none => simp
 | some c => have := h c (List.mem_of_find?_eq_some hf); exact ⟨this.1, this.2.1⟩
theorem chainF_len (cs : List Class) : ∀ (k : Nat) (n : ByteArray), (chainF cs k n).length ≤ k
 | 0, _ => Nat.le_refl _
 | k + 1, n => by
   unfold chainF
   cases cs.find? (nameIs n) with
   | none => simp
   | some c => have := chainF_len cs k c.super; simp; omega
theorem fieldsF_len {cs : List Class} (h : SmallC cs) : ∀ l : List ByteArray, (fieldsF cs l).length ≤ l.length * 1048576
 | [] => by simp [fieldsF]
 | n :: l => by
   have ih := fieldsF_len h l
   have := (h.classD n).1
   unfold fieldsF at *
   rw [List.reverse_cons, List.flatMap_append, List.length_append, List.length_cons]
   have e : ([n].flatMap fun n => (V.classD cs n).fields).length = (V.classD cs n).fields.length := by simp
   rw [e, Nat.add_mul]
   omega
def classRowB (cs : List Class) (i : Nat) : Bool :=
 match cs[i]? with
 | none => true
 | some c => !(decide (cs.length < (chainF cs (cs.length + 1) c.name).length) || twiceB (fieldsF cs (chainF cs (cs.length + 1) c.name))) && methodsB cs ((chainF cs (cs.length + 1) c.name).drop 1) c.methods
def refErr (e : Int) (cs : List Class) : Int :=
 if e = 0 then (if 16 < cs.length then 6 else if namesB cs = false then 60 else if (List.range cs.length).all (classRowB cs) = true then 0 else 60) else e
theorem find_self {cs : List Class} {c : Class} (h : c ∈ cs) : ∃ d, cs.find? (nameIs c.name) = some d := by
 cases hf : cs.find? (nameIs c.name) with
 | some d => exact ⟨d, rfl⟩
 | none =>
   have := List.find?_eq_none.1 hf c h
   simp [nameIs] at this
theorem refCheck_ok (p : Program) (e : Int) (he : (Lit.int .i64 e).wf = true) (hS : SmallC p.classes) (hlen : p.classes.length ≤ 1000000000) (hck : ∀ m, COk Tryz.prog 17 [.agg (cProg p)] m (.c (.int .i64 e))) (m : Mem) :
 COk Tryz.prog 9 [.agg (cProg p)] m (.c (.int .i64 (refErr e p.classes))) := by
 obtain ⟨cs, mn⟩ := p
 dsimp only at hS hlen hck ⊢
 refine (ok_pure tab_ok Tryz.func9 (by kernel_rfl) rfl rfl (by rfl) (by rfl) (by rfl) (fun R hkeep => ?_) m)
 repeat (first | refine W.seq ?_ | refine W.block ?_ | refine W.skip ?_ | refine W.exit ?_ | refine W.g ?_ zm30q20)
 refine W.regionK tab_ok 0 (by decide) ?_
 refine runk_split 1 zm30q20 ?_
 refine runk_call rfl rfl rfl rfl rfl (by simp) cw1 (hck _) ?_
 refine xe0 ?_
 refine W.go ?_
 refine W.cond rfl ?_ ?_
 ·intro h
  have he : e ≠ 0 := by simpa using h
  refine W.go ?_
  refine W.ret ⟨.inr rfl, by rfl, ?_⟩
  simp only [Tryz.f9, resA, resOne, toT, fin, exb, Nat.reduceAdd, Nat.reduceLeDiff, Nat.reduceEqDiff, Nat.reduceMul, Int.reduceToNat, reduceIte, Int.reduceLE, Int.reduceNeg]
  simp [refErr, he]
 intro h
 have he : e = 0 := by simpa using h
 subst he
 repeat (first | refine W.seq ?_ | refine W.block ?_ | refine W.skip ?_ | refine W.exit ?_ | refine W.g ?_ zm30q20)
 refine W.cond rfl ?_ ?_
 ·intro h
  have h16 : 16 < cs.length := by simp at h; omega
  refine W.go ?_
  refine W.ret ⟨.inr rfl, by rfl, ?_⟩
  simp only [Tryz.f9, resA, resOne, toT, fin, exb, Nat.reduceAdd, Nat.reduceLeDiff, Nat.reduceEqDiff, Nat.reduceMul, Int.reduceToNat, reduceIte, Int.reduceLE, Int.reduceNeg]
  simp [refErr, h16]
 intro h
 have h16 : ¬ 16 < cs.length := by simp at h; omega
 refine W.go ?_
 refine W.regionK tab_ok 0 (by decide) ?_
 refine runk_split 1 zm30q20 ?_
 refine runk_call rfl rfl rfl rfl rfl (by simp) cw1 (names_ok cs (.sl (cStmts mn)) (by omega) _) ?_
 refine xe0 ?_
 refine W.cond rfl ?_ ?_
 ·intro h
  have hn : namesB cs = false := by simpa using h
  refine W.go ?_
  refine W.ret ⟨.inr rfl, by rfl, ?_⟩
  simp only [Tryz.f9, resA, resOne, toT, fin, exb, Nat.reduceAdd, Nat.reduceLeDiff, Nat.reduceEqDiff, Nat.reduceMul, Int.reduceToNat, reduceIte, Int.reduceLE, Int.reduceNeg]
  simp [refErr, h16, hn]
 intro h
 have hn : namesB cs = true := by simpa using h
 repeat (first | refine W.seq ?_ | refine W.block ?_ | refine W.skip ?_ | refine W.exit ?_ | refine W.g ?_ zm30q20)
 refine W.loop (ι := Nat) (fun k => ⟨upd (upd (upd (upd (fun _ => .top) 1 (.ptr 1 0)) 20 (.c (.sl (cs.map cClass)))) 21 (.c (.int .i64 cs.length))) 22 (.c (.int .i64 k)),
  upd Mem.nil 1 (some (.box 25 [.c (.sl (cs.map cClass)), .c (.sl (cStmts mn))]))⟩)
  (fun k => k ≤ cs.length ∧ ∀ i < k, classRowB cs i = true) (fun k => cs.length - k) 0 ?start ⟨Nat.zero_le _, fun i hi => by omega⟩ ?round
 case start =>
  exact le_D (kept_not hkeep)
 case round =>
  rintro k ⟨hk, hall⟩
  refine W.go ?_
  refine W.cond rfl ?_ ?_
  ·intro hlt
   simp only [decide_eq_true_eq, Int.ofNat_lt] at hlt
   obtain ⟨x, hx⟩ : ∃ x, cs[k]? = some x := ⟨_, List.getElem?_eq_getElem hlt⟩
   have hmem := List.mem_of_getElem? hx
   have hSx := hS x hmem
   have hcl := chainF_len cs (cs.length + 1) x.name
   have hfl := fieldsF_len hS (chainF cs (cs.length + 1) x.name)
   have hfl2 : (fieldsF cs (chainF cs (cs.length + 1) x.name)).length ≤ 1000000000 := by
    have : (chainF cs (cs.length + 1) x.name).length * 1048576 ≤ 17 * 1048576 := Nat.mul_le_mul_right _ (by omega)
    omega
   have hpos : 1 ≤ (chainF cs (cs.length + 1) x.name).length := by
    obtain ⟨d, hd⟩ := find_self hmem
    simp [chainF, hd]
   generalize hch : chainF cs (cs.length + 1) x.name = ch at *
   have hrow : classRowB cs k = (!(decide (cs.length < ch.length) || twiceB (fieldsF cs ch)) && methodsB cs (ch.drop 1) x.methods) := by simp only [classRowB, hx, hch]
   repeat (first | refine W.seq ?_ | refine W.block ?_ | refine W.skip ?_ | refine W.exit ?_ | refine W.g ?_ zm30q15)
   refine W.regionK tab_ok 0 (by decide) ?_
   refine runk_split 3 zm30q19 ?_
   refine runk_call rfl rfl rfl rfl rfl (by simp) cw2 (hch ▸ chain_ok cs (.sl (cStmts mn)) x.name hlen _) ?_
   refine xe0 ?_
   have bad : classRowB cs k = false → refErr 0 cs = 60 := fun h => by simp [refErr, h16, hn, not_range hlt h]
   by_cases hlong : cs.length < ch.length
   ·have hl' : decide ((cs.length : Int) < (ch.length : Int)) = true := by simp; omega
    repeat (first | refine W.seq ?_ | refine W.block ?_ | refine W.skip ?_ | refine W.exit ?_ | refine W.g ?_ zm30q21)
    refine W.cond rfl ?_ ?_
    ·intro _
     refine W.go ?_
     refine W.ret ⟨.inr rfl, by rfl, ?_⟩
     simp only [Tryz.f9, resA, resOne, toT, fin, exb, Nat.reduceAdd, Nat.reduceLeDiff, Nat.reduceEqDiff, Nat.reduceMul, Int.reduceToNat, reduceIte, Int.reduceLE, Int.reduceNeg]
     rw [bad (by rw [hrow]; simp [hlong])]
    ·intro h; cases h
   ·have hl' : decide ((cs.length : Int) < (ch.length : Int)) = false := by simp; omega
    refine W.go ?_
    refine W.regionK tab_ok 0 (by decide) ?_
    refine runk_split 9 zm30q21 ?_
    refine runk_call rfl rfl rfl rfl rfl (by simp) cw2 (fields_ok cs (.sl (cStmts mn)) ch (by omega) (by omega) hfl2 _) ?_
    refine xs0 0 ?_
    refine runk_call rfl rfl rfl rfl rfl (by simp) cw1 (twice_ok (fieldsF cs ch) (by omega) _) ?_
    refine xe0 ?_
    refine W.cond rfl ?_ ?_
    ·intro h
     refine W.go ?_
     refine W.ret ⟨.inr rfl, by rfl, ?_⟩
     simp only [Tryz.f9, resA, resOne, toT, fin, exb, Nat.reduceAdd, Nat.reduceLeDiff, Nat.reduceEqDiff, Nat.reduceMul, Int.reduceToNat, reduceIte, Int.reduceLE, Int.reduceNeg]
     rw [bad (by rw [hrow, h]; simp)]
    ·intro htw
     refine W.go ?_
     have hcs : ∀ x ∈ ch.map cStr, x.length = 1 := by simp [cStr]
     refine W.regionDK tab_ok 0 follows_mixed (by kernel_rfl) (by decide) ?_
     refine runk_split 4 (by simp only [exb, Nat.reduceAdd, Nat.reduceLeDiff, Nat.reduceEqDiff, Nat.reduceMul, Int.reduceToNat, reduceIte, Int.reduceLE, Int.reduceNeg, hpos, eq_true hcs, Nat.le_refl, ← List.map_take, List.take_length, ← List.map_drop]; rfl) ?_
     refine runk_call rfl rfl rfl rfl rfl (by simp) cw3 (methods_ok cs (.sl (cStmts mn)) x (ch.drop 1) (by omega) (by rw [List.length_drop]; omega) (fun n => Nat.le_trans (hS.classD n).2 (by omega)) (by omega) (fun m hm => Nat.le_trans (hSx.2.2 m hm) (by omega)) _) ?_
     refine xe0 ?_
     refine W.cond rfl ?_ ?_
     ·intro h
      refine W.go ?_
      refine W.ret ⟨.inr rfl, by rfl, ?_⟩
      simp only [Tryz.f9, resA, resOne, toT, fin, exb, Nat.reduceAdd, Nat.reduceLeDiff, Nat.reduceEqDiff, Nat.reduceMul, Int.reduceToNat, reduceIte, Int.reduceLE, Int.reduceNeg]
      have h' : methodsB cs (ch.drop 1) x.methods = false := by simpa using h
      rw [bad (by rw [hrow, h']; simp)]
     ·intro h
      have h' : methodsB cs (ch.drop 1) x.methods = true := by simpa using h
      refine W.go ?_
      refine ⟨k + 1, ⟨hlt, fun i hi => ?_⟩, by omega, ?_⟩
      ·rcases Nat.lt_succ_iff_lt_or_eq.1 hi with q | q
       ·exact hall i q
       ·subst q; rw [hrow, h', htw]; simp [hlong]
      exact le_Sk (kept_not hkeep)
  ·intro hge
   simp only [decide_eq_false_iff_not, Int.ofNat_lt] at hge
   obtain rfl : k = cs.length := by omega
   refine W.go ?_
   refine W.ret ⟨.inr rfl, by rfl, ?_⟩
   simp only [Tryz.f9, resA, resOne, toT, fin, exb, Nat.reduceAdd, Nat.reduceLeDiff, Nat.reduceEqDiff, Nat.reduceMul, Int.reduceToNat, reduceIte, Int.reduceLE, Int.reduceNeg]
   simp [refErr, h16, hn, all_range hall]
end V
end Go.Proofs.YthhpcjoaogmhbaaGreatDoor
end
section
namespace Go.Proofs.YthhpcjoaogmhbaaGreatDoor
namespace V
open Go.RowKit
theorem cellsAt_of {w : World} {b : Nat} : ∀ {cs : List Value} {o : Nat}, (∀ (j : Nat) v, cs[j]? = some v → w.cell? ⟨b, o + j, none⟩ = some v) → cellsAt w b o cs
 | [], _, _ => trivial
 | v :: cs, o, h => ⟨by simpa using h 0 v rfl, cellsAt_of fun j u hj => by have := h (j + 1) u (by simpa using hj); rwa [show o + (j + 1) = o + 1 + j by omega] at this⟩
theorem cellsAt_get {w : World} {b : Nat} : ∀ {cs : List Value} {o : Nat}, cellsAt w b o cs → ∀ (j : Nat) v, cs[j]? = some v → w.cell? ⟨b, o + j, none⟩ = some v
 | [], _, _, j, v, h => by simp at h
 | u :: cs, o, h, 0, v, hv => by simp at hv; subst hv; exact h.1
 | u :: cs, o, h, j + 1, v, hv => by
   have := cellsAt_get h.2 j v (by simpa using hv)
   rwa [show o + (j + 1) = o + 1 + j by omega]
section
variable {w : World} {I : Nat → Nat → Prop}
theorem rc_rsl {α : Type} {f : α → List C} {sz : Nat} {R : List Value → α → Prop} {J : Nat → Prop} {v : Value} {l : List α} (hI : ∀ b o, I b o → J b) (hz : 0 < sz) (hf : ∀ x ∈ l, (f x).length = sz) (hR : ∀ cs x, x ∈ l → RCs w I cs (f x) → R cs x) (h : RC w I v (.sl (l.map f))) : RSl sz R w J v l := by
 cases h with
 | @sl a n cap e _ g h1 h2 h3 h4 h5 h6 =>
   refine ⟨a, n, cap, rfl, by simpa using h1, h2, by unfold maxC; unfold maxLen at h3; omega, fun i x hx => ?_⟩
   have hx' := at_map (f := f) hx
   have hm := List.mem_of_getElem? hx
   have he : e = sz := by rw [← hf x hm, h4 _ (List.mem_of_getElem? hx')]
   subst he
   obtain ⟨b, off, rfl, hc⟩ := h5 _ _ hx'
   refine ⟨b, off, (List.range e).map (g i), rfl, hI b _ (hc 0 hz).1, cellsAt_of fun j u hj => ?_, hR _ _ hm (RCs.of (by simp [hf x hm]) fun j u c hj hcj => ?_)⟩
   ·rw [List.getElem?_map] at hj
    by_cases hje : j < e
    ·rw [List.getElem?_range hje] at hj; cases hj; exact (hc j hje).2
    ·rw [List.getElem?_eq_none (by simp; omega)] at hj; cases hj
   ·rw [List.getElem?_map] at hj
    by_cases hje : j < e
    ·rw [List.getElem?_range hje] at hj; cases hj; exact h6 _ _ _ _ hx' hcj
    ·rw [List.getElem?_eq_none (by simp; omega)] at hj; cases hj
theorem rsl_rc {α : Type} {f : α → List C} {sz : Nat} {R : List Value → α → Prop} {J : Nat → Prop} {v : Value} {l : List α} (hI : ∀ b o, J b → I b o) (hR : ∀ cs x, x ∈ l → R cs x → cs.length = sz ∧ RCs w I cs (f x)) (h : RSl sz R w J v l) : RC w I v (.sl (l.map f)) := by
 obtain ⟨a, n, cap, rfl, h1, h2, h3, h4⟩ := h
 have hch : ∀ (i : Nat) x, l[i]? = some x → ∃ cs : List Value, ∃ b off, a = some ⟨b, off, none⟩ ∧ J b ∧ cellsAt w b (off + i * sz) cs ∧ cs.length = sz ∧ RCs w I cs (f x) := fun i x hx => by
  obtain ⟨b, off, cs, e1, e2, e3, e4⟩ := h4 i x hx
  obtain ⟨e5, e6⟩ := hR cs x (List.mem_of_getElem? hx) e4
  exact ⟨cs, b, off, e1, e2, e3, e5, e6⟩
 obtain ⟨g, hg⟩ : ∃ g : Nat → List Value, ∀ (i : Nat) x, l[i]? = some x → ∃ b off, a = some ⟨b, off, none⟩ ∧ J b ∧ cellsAt w b (off + i * sz) (g i) ∧ (g i).length = sz ∧ RCs w I (g i) (f x) := by
  have : ∀ i, ∃ g : List Value, ∀ x, l[i]? = some x → ∃ b off, a = some ⟨b, off, none⟩ ∧ J b ∧ cellsAt w b (off + i * sz) g ∧ g.length = sz ∧ RCs w I g (f x) := fun i => by
   cases hx : l[i]? with
   | none => exact ⟨[], fun x h => by cases h⟩
   | some x =>
     obtain ⟨cs, b, off, q⟩ := hch i x hx
     exact ⟨cs, fun y hy => by cases hy; exact ⟨b, off, q⟩⟩
  exact Classical.skolem.1 this
 have el : ∀ (i : Nat) y, (l.map f)[i]? = some y → ∃ x, l[i]? = some x ∧ y = f x := fun i y hy => by
  rw [List.getElem?_map] at hy
  cases hx : l[i]? with
  | none => rw [hx] at hy; cases hy
  | some x => rw [hx] at hy; exact ⟨x, rfl, (Option.some.inj hy).symm⟩
 refine .sl (e := sz) (fun i j => (g i).getD j undef) (by simpa using h1) h2 (by unfold maxLen; unfold maxC at h3; omega) (fun y hy => ?_) (fun i y hy => ?_) (fun i j y c hy hc => ?_)
 ·obtain ⟨i, hi⟩ := List.getElem?_of_mem hy
  obtain ⟨x, hx, rfl⟩ := el i y hi
  obtain ⟨b, off, -, -, -, q1, q2⟩ := hg i x hx
  rw [← q2.length, q1]
 ·obtain ⟨x, hx, rfl⟩ := el i y hy
  obtain ⟨b, off, q1, q2, q3, q4, -⟩ := hg i x hx
  refine ⟨b, off, q1, fun j hj => ⟨hI b _ q2, ?_⟩⟩
  have hj' : j < (g i).length := by omega
  rw [cellsAt_get q3 j _ (List.getElem?_eq_getElem hj')]
  simp [hj']
 ·obtain ⟨x, hx, rfl⟩ := el i y hy
  obtain ⟨b, off, -, -, -, -, q2⟩ := hg i x hx
  obtain ⟨u, h5, h6⟩ := q2.at j c hc
  simp [h5]; exact h6
variable (hI : ∀ b o, I b o → b < w.heap.size)
theorem rcs_slot {cs : List Value} {x : Slot} (h : RCs w I cs (cSlot x)) : RSlot cs x := by
 match cs, h with
 | [a, b], ⟨h1, h2, _⟩ => exact ⟨by rw [h1.toStr.1, h2.toStr.1], h1.toStr.2, h2.toStr.2⟩
theorem slot_rcs {cs : List Value} {x : Slot} (h : RSlot cs x) : cs.length = 2 ∧ RCs w I cs (cSlot x) := by
 obtain ⟨rfl, h1, h2⟩ := h
 exact ⟨rfl, .str h1, .str h2, trivial⟩
include hI in
theorem rc_slots {v : Value} {l : List Slot} (h : RC w I v (.sl (l.map cSlot))) : RSlots w (· < w.heap.size) v l := rc_rsl hI (by decide) (fun _ _ => rfl) (fun _ _ _ h => rcs_slot h) h
mutual
def dExpr : Expr → Nat
 | ⟨_, _, _, kids⟩ => dExprs kids + 1
def dExprs : List Expr → Nat
 | [] => 0
 | x :: l => max (dExpr x) (dExprs l)
end
theorem dExprs_mem {l : List Expr} {x : Expr} (h : x ∈ l) : dExpr x ≤ dExprs l := by
 induction l with
 | nil => simp at h
 | cons y l ih =>
   simp only [dExprs]
   rcases List.mem_cons.1 h with rfl | h
   ·omega
   ·have := ih h; omega
include hI in
theorem rcs_expr : ∀ (d : Nat) {cs : List Value} {x : Expr}, dExpr x ≤ d → RCs w I cs (cExpr x) → RExpr d w (· < w.heap.size) cs x
 | 0, cs, ⟨k, n, nm, kids⟩, hd, _ => by simp [dExpr] at hd
 | d + 1, cs, ⟨k, n, nm, kids⟩, hd, h => by
   simp only [cExpr] at h
   match cs, h with
   | [a, b, c, e], ⟨h1, h2, h3, h4, _⟩ =>
     simp only [dExpr] at hd
     rw [cExprs_map] at h4
     refine ⟨e, by rw [h1.toInt.1, h2.toInt.1, h3.toStr.1], h1.toInt.2, h2.toInt.2, h3.toStr.2, rc_rsl hI (by decide) (fun x _ => by cases x; rfl) (fun cs x hx hc => rcs_expr d (by have h' : dExpr x ≤ dExprs kids := dExprs_mem hx; omega) hc) h4⟩
theorem expr_rcs (hJ : ∀ b o, b < w.heap.size → I b o) : ∀ (d : Nat) {cs : List Value} {x : Expr}, RExpr d w (· < w.heap.size) cs x → cs.length = 4 ∧ RCs w I cs (cExpr x)
 | 0, _, _, h => h.elim
 | d + 1, cs, ⟨k, n, nm, kids⟩, ⟨kv, h1, h2, h3, h4, h5⟩ => by
   subst h1
   refine ⟨rfl, .int h2, .int h3, .str h4, ?_, trivial⟩
   rw [cExprs_map]
   exact rsl_rc hJ (fun _ _ _ h => expr_rcs hJ d h) h5
mutual
def dStmt : Stmt → Nat
 | ⟨_, _, _, _, es, th, el⟩ => max (dExprs es) (max (dStmts th) (dStmts el)) + 1
def dStmts : List Stmt → Nat
 | [] => 0
 | x :: l => max (dStmt x) (dStmts l)
end
theorem dStmts_mem {l : List Stmt} {x : Stmt} (h : x ∈ l) : dStmt x ≤ dStmts l := by
 induction l with
 | nil => simp at h
 | cons y l ih =>
   simp only [dStmts]
   rcases List.mem_cons.1 h with rfl | h
   ·omega
   ·have := ih h; omega
include hI in
theorem rcs_stmt : ∀ (d : Nat) {cs : List Value} {x : Stmt}, dStmt x ≤ d → RCs w I cs (cStmt x) → RStmt d w (· < w.heap.size) cs x
 | 0, cs, ⟨k, n, ty, nm, es, th, el⟩, hd, _ => by simp [dStmt] at hd
 | d + 1, cs, ⟨k, n, ty, nm, es, th, el⟩, hd, h => by
   simp only [cStmt] at h
   match cs, h with
   | [a, b, c, e, f, g, i], ⟨h1, h2, h3, h4, h5, h6, h7, _⟩ =>
     simp only [dStmt] at hd
     rw [cExprs_map] at h5
     rw [cStmts_map] at h6 h7
     refine ⟨f, g, i, by rw [h1.toInt.1, h2.toInt.1, h3.toStr.1, h4.toStr.1], h1.toInt.2, h2.toInt.2, h3.toStr.2, h4.toStr.2, rc_rsl hI (by decide) (fun x _ => by cases x; rfl) (fun cs x hx hc => rcs_expr hI d (by have h' : dExpr x ≤ dExprs es := dExprs_mem hx; omega) hc) h5,
      rc_rsl hI (by decide) (fun x _ => by cases x; rfl) (fun cs x hx hc => rcs_stmt d (by have h' : dStmt x ≤ dStmts th := dStmts_mem hx; omega) hc) h6, rc_rsl hI (by decide) (fun x _ => by cases x; rfl) (fun cs x hx hc => rcs_stmt d (by have h' : dStmt x ≤ dStmts el := dStmts_mem hx; omega) hc) h7⟩
theorem stmt_rcs (hJ : ∀ b o, b < w.heap.size → I b o) : ∀ (d : Nat) {cs : List Value} {x : Stmt}, RStmt d w (· < w.heap.size) cs x → cs.length = 7 ∧ RCs w I cs (cStmt x)
 | 0, _, _, h => h.elim
 | d + 1, cs, ⟨k, n, ty, nm, es, th, el⟩, ⟨ev, tv, fv, h1, h2, h3, h4, h5, h6, h7, h8⟩ => by
   subst h1
   refine ⟨rfl, .int h2, .int h3, .str h4, .str h5, ?_, ?_, ?_, trivial⟩
   ·rw [cExprs_map]; exact rsl_rc hJ (fun _ _ _ h => expr_rcs hJ d h) h6
   ·rw [cStmts_map]; exact rsl_rc hJ (fun _ _ _ h => stmt_rcs hJ d h) h7
   ·rw [cStmts_map]; exact rsl_rc hJ (fun _ _ _ h => stmt_rcs hJ d h) h8
include hI in
theorem rc_stmts {v : Value} {l : List Stmt} {d : Nat} (hd : dStmts l ≤ d) (h : RC w I v (.sl (cStmts l))) : RStmts d w (· < w.heap.size) v l := by
 rw [cStmts_map] at h
 exact rc_rsl hI (by decide) (fun x _ => by cases x; rfl) (fun cs x hx hc => rcs_stmt hI d (by have h' : dStmt x ≤ dStmts l := dStmts_mem hx; omega) hc) h
def dMethod (x : Method) : Nat := dStmts x.body
include hI in
theorem rcs_method {cs : List Value} {x : Method} {d : Nat} (hd : dMethod x ≤ d) (h : RCs w I cs (cMethod x)) : RMethod d w (· < w.heap.size) cs x := by
 match cs, h with
 | [a, b, c, e], ⟨h1, h2, h3, h4, _⟩ => exact ⟨c, e, by rw [h1.toStr.1, h2.toStr.1], h1.toStr.2, h2.toStr.2, rc_slots hI h3, rc_stmts hI hd h4⟩
theorem method_rcs (hJ : ∀ b o, b < w.heap.size → I b o) {d : Nat} {cs : List Value} {x : Method} (h : RMethod d w (· < w.heap.size) cs x) : cs.length = 4 ∧ RCs w I cs (cMethod x) := by
 obtain ⟨pv, bv, rfl, h1, h2, h3, h4⟩ := h
 refine ⟨rfl, .str h1, .str h2, rsl_rc hJ (fun _ _ _ h => slot_rcs h) h3, ?_, trivial⟩
 rw [cStmts_map]; exact rsl_rc hJ (fun _ _ _ h => stmt_rcs hJ d h) h4
def maxL (l : List Nat) : Nat := l.foldr max 0
theorem maxL_mem {l : List Nat} {x : Nat} (h : x ∈ l) : x ≤ maxL l := by
 induction l with
 | nil => simp at h
 | cons y l ih =>
   simp only [maxL, List.foldr_cons] at ih ⊢
   rcases List.mem_cons.1 h with rfl | h
   ·omega
   ·have := ih h; omega
def dClass (x : Class) : Nat := maxL (x.methods.map dMethod)
include hI in
theorem rcs_class {cs : List Value} {x : Class} {d : Nat} (hd : dClass x ≤ d) (h : RCs w I cs (cClass x)) : RClass d w (· < w.heap.size) cs x := by
 match cs, h with
 | [a, b, c, e], ⟨h1, h2, h3, h4, _⟩ =>
   exact ⟨c, e, by rw [h1.toStr.1, h2.toStr.1], h1.toStr.2, h2.toStr.2, rc_slots hI h3, rc_rsl hI (by decide) (fun _ _ => rfl) (fun cs m hm hc => rcs_method hI (Nat.le_trans (maxL_mem (List.mem_map_of_mem hm)) hd) hc) h4⟩
theorem class_rcs (hJ : ∀ b o, b < w.heap.size → I b o) {d : Nat} {cs : List Value} {x : Class} (h : RClass d w (· < w.heap.size) cs x) : cs.length = 4 ∧ RCs w I cs (cClass x) := by
 obtain ⟨pv, bv, rfl, h1, h2, h3, h4⟩ := h
 exact ⟨rfl, .str h1, .str h2, rsl_rc hJ (fun _ _ _ h => slot_rcs h) h3, rsl_rc hJ (fun _ _ _ h => method_rcs hJ h) h4, trivial⟩
include hI in
theorem rc_classes {v : Value} {l : List Class} : ∃ d, RC w I v (.sl (l.map cClass)) → RClasses d w (· < w.heap.size) v l :=
 ⟨maxL (l.map dClass), fun h => rc_rsl hI (by decide) (fun _ _ => rfl) (fun _ _ hm hc => rcs_class hI (maxL_mem (List.mem_map_of_mem hm)) hc) h⟩
theorem rprog_of {v : Value} {p : Program} (hI : ∀ b o, I b o → b < w.heap.size) (h : ∃ us, v = .agg us.toArray ∧ RCs w I us (cProg p)) : ∃ d, RProgram d w (· < w.heap.size) v p := by
 obtain ⟨us, rfl, h⟩ := h
 match us, h with
 | [a, b], ⟨h1, h2, _⟩ =>
   refine ⟨max (maxL (p.classes.map dClass)) (dStmts p.main), a, b, rfl, ?_, rc_stmts hI (by omega) h2⟩
   exact rc_rsl hI (by decide) (fun _ _ => rfl) (fun _ _ hm hc => rcs_class hI (by have := maxL_mem (List.mem_map_of_mem (f := dClass) hm); omega) hc) h1
theorem prog_rcs (hJ : ∀ b o, b < w.heap.size → I b o) {d : Nat} {v : Value} {p : Program} (h : RProgram d w (· < w.heap.size) v p) : ∃ us, v = .agg us.toArray ∧ RCs w I us (cProg p) := by
 obtain ⟨cv, mv, rfl, h1, h2⟩ := h
 refine ⟨[cv, mv], rfl, rsl_rc hJ (fun _ _ _ h => class_rcs hJ h) h1, ?_, trivial⟩
 rw [cStmts_map]; exact rsl_rc hJ (fun _ _ _ h => stmt_rcs hJ d h) h2
end
end V
end Go.Proofs.YthhpcjoaogmhbaaGreatDoor
end
section
namespace Go.Proofs.YthhpcjoaogmhbaaGreatDoor
namespace V
open Go.RowKit
section
variable {H : Type} {enc : TypeId × Value → H} {w : World} {held : Bool}
theorem bulk_one (d : DataW H) : 1 ≤ Rows.uptoBulk d := by
 cases d with
 | lit l => cases l <;> simp [Rows.uptoBulk]
 | _ => simp [Rows.uptoBulk]
theorem bulk_mem {d : DataW H} {l : List (DataW H)} (h : d ∈ l) : Rows.uptoBulk d ≤ Rows.uptoBulkAll l := by
 induction l with
 | nil => cases h
 | cons x r ih =>
   simp only [Rows.uptoBulkAll]
   rcases List.mem_cons.1 h with rfl | e
   ·omega
   ·have := ih e; omega
theorem bulk_len (l : List (DataW H)) : l.length ≤ Rows.uptoBulkAll l := by
 induction l with
 | nil => simp [Rows.uptoBulkAll]
 | cons x r ih => have := bulk_one x; simp only [Rows.uptoBulkAll, List.length_cons]; omega
theorem cells_same {b off : Nat} {cs cs' : List Value} (h : cellsAt w b off cs) (k : ∀ i, i < cs'.length → w.cell? ⟨b, off + i, none⟩ = cs'[i]?) (hl : cs.length = cs'.length) : cs = cs' := by
 refine List.ext_getElem? fun i => ?_
 by_cases hi : i < cs.length
 ·have h1 := cellsAt_get h i _ (List.getElem?_eq_getElem hi)
  have h2 := k i (by omega)
  rw [List.getElem?_eq_getElem hi, ← h2, ← h1]
 ·rw [List.getElem?_eq_none (by omega), List.getElem?_eq_none (by omega)]
theorem slice_bulk {α : Type} {P : Go.Program} {t e : TypeId} {sz fuel : Nat} {v : Value} {x : DataW H × List MemPlace} {R : List Value → α → Prop} {J : Nat → Prop} {l : List α} (ht : P.underlying t = some (.slice e)) (hsz : P.cellsOf e = sz) (hpos : 0 < sz)
 (hlen : ∀ cs y, R cs y → cs.length = sz) (h : DataW.trod enc P w 0 (fun _ => true) held fuel t [v] = some x) (hR : RSl sz R w J v l) :
 l.length ≤ Rows.uptoBulk x.1 ∧ ∀ y ∈ l, ∃ n cs z, R cs y ∧ DataW.trod enc P w 0 (fun _ => true) held n e cs = some z ∧ Rows.uptoBulk z.1 ≤ Rows.uptoBulk x.1 := by
 obtain ⟨a, n, cap, rfl, hn, -, -, hel⟩ := hR
 rcases DataW.trod_slice ht h with ⟨e1, rfl⟩ | ⟨a', len, cap', elems, rest, m, -, e1, hxe, -, -, -, hlen', hall, -, -⟩
 ·simp only [List.cons.injEq, Value.slice.injEq, and_true] at e1
  obtain ⟨-, rfl, -⟩ := e1
  obtain rfl : l = [] := List.length_eq_zero_iff.1 hn
  exact ⟨Nat.zero_le _, fun y hy => by cases hy⟩
 ·simp only [List.cons.injEq, Value.slice.injEq, and_true] at e1
  obtain ⟨rfl, rfl, rfl⟩ := e1
  subst hxe
  have hb : Rows.uptoBulkAll (elems.map (·.1)) ≤ Rows.uptoBulk (DataW.slice (elems.map (·.1)) (rest.map (·.1))) := by simp only [Rows.uptoBulk]; omega
  refine ⟨?_, fun y hy => ?_⟩
  ·refine Nat.le_trans ?_ hb
   have := bulk_len (elems.map (·.1))
   rw [List.length_map] at this
   omega
  ·obtain ⟨i, hi⟩ := List.getElem?_of_mem hy
   have hil := (List.getElem?_eq_some_iff.1 hi).1
   obtain ⟨b, off, cs, ea, -, hc, hr⟩ := hel i y hi
   cases ea
   have h1 := hall i (by omega)
   rw [hsz] at h1
   have hz : ∃ z, elems[i]? = some z := ⟨elems[i]'(by omega), List.getElem?_eq_getElem (by omega)⟩
   obtain ⟨z, hz⟩ := hz
   rw [hz] at h1
   cases hcell : w.cells? 0 ((⟨b, off, none⟩ : Addr).add (i * sz)) sz with
   | none => rw [hcell] at h1; simp at h1
   | some cs' =>
     rw [hcell] at h1
     have h1' : DataW.trod enc P w 0 (fun _ => true) held m e cs' = some z := by simpa using h1
     obtain ⟨_, hlen2, hcs⟩ := World.cells?_some hcell
     have : cs = cs' := cells_same hc (fun j hj => by
      have := hcs j (by omega)
      rw [← this]
      congr 1
      have h3 : ∀ (o k : Nat), (⟨b, o, none⟩ : Addr).add k = ⟨b, o + k, none⟩ := fun o k => by
       unfold Addr.add
       by_cases hk : k = 0
       ·subst hk; rfl
       ·simp [hk]
      rw [h3, h3]) (by rw [hlen _ _ hr, hlen2])
     subst this
     exact ⟨m, cs, z, hr, h1', Nat.le_trans (bulk_mem (List.mem_map_of_mem (List.mem_of_getElem? hz))) hb⟩
theorem struct_bulk {P : Go.Program} {t : TypeId} {fl : List (TypeId × Nat)} {fuel : Nat} {cs : List Value} {x : DataW H × List MemPlace}
 (hf : (P.underlying t).map (fun d => match d with | .struct fs => fs.toList.map (fun f => (f.type, f.offset)) | _ => []) = some fl) (hne : fl ≠ [])
 (h : DataW.trod enc P w 0 (fun _ => true) held fuel t cs = some x) : ∀ k ∈ fl, ∃ n y, DataW.trod enc P w 0 (fun _ => true) held n k.1 ((cs.drop k.2).take (P.cellsOf k.1)) = some y ∧ Rows.uptoBulk y.1 ≤ Rows.uptoBulk x.1 := by
 cases hu : P.underlying t with
 | none => rw [hu] at hf; simp at hf
 | some d =>
   rw [hu] at hf
   simp only [Option.map_some, Option.some.injEq] at hf
   cases d with
   | struct fs =>
     simp only at hf
     obtain ⟨xs, n, hfu, hxe, hl, hlen, hall⟩ := DataW.trod_struct hu h
     intro k hk
     rw [← hf] at hk
     obtain ⟨f, hfm, rfl⟩ := List.mem_map.1 hk
     obtain ⟨i, hi⟩ := List.mem_iff_getElem?.1 hfm
     have hi' : fs[i]? = some f := by rw [← Array.getElem?_toList]; exact hi
     have := hall i f hi'
     have hlt : i < xs.length := by
      rw [hlen]
      exact (Array.getElem?_eq_some_iff.1 hi').1
     refine ⟨n, xs[i], by simpa [List.getElem?_eq_getElem hlt] using this, ?_⟩
     have h1 : xs[i].1 ∈ xs.map (·.1) := List.mem_map_of_mem (List.getElem_mem hlt)
     have h2 := bulk_mem h1
     subst hxe
     simp only [Rows.uptoBulk]
     omega
   | _ => simp only at hf; exact absurd hf.symm hne
theorem small_of {d fuel N : Nat} {cs : List Value} {x : DataW H × List MemPlace} {p : Program} (hp : RProgram d w (· < w.heap.size) (.agg cs.toArray) p) (h : DataW.trod enc Tryz.prog w 0 (fun _ => true) held fuel 25 cs = some x) (hN : Rows.uptoBulk x.1 ≤ N) :
 p.classes.length ≤ N ∧ ∀ c ∈ p.classes, c.fields.length ≤ N ∧ c.methods.length ≤ N ∧ ∀ m ∈ c.methods, m.params.length ≤ N := by
 obtain ⟨cv, mv, e1, h1, -⟩ := hp
 have e2 : cs = [cv, mv] := by simpa using congrArg Array.toList (Value.agg.inj e1)
 subst e2
 obtain ⟨n1, y1, k1, b1⟩ := struct_bulk fieldsProgram (by simp) h (22, 0) (by simp)
 rw [cellsOf_one _ c_classes _ _ _ rfl] at k1
 obtain ⟨l1, hall⟩ := slice_bulk Tryz.underlying22 c_class (by decide) (fun cs y hy => by obtain ⟨_, _, rfl, -⟩ := hy; rfl) k1 h1
 refine ⟨by omega, fun c hc => ?_⟩
 obtain ⟨n2, cs2, y2, hc2, k2, b2⟩ := hall c hc
 obtain ⟨fv, mv2, rfl, -, -, hf, hm⟩ := hc2
 obtain ⟨n3, y3, k3, b3⟩ := struct_bulk fieldsClass (by simp) k2 (26, 2) (by simp)
 obtain ⟨n4, y4, k4, b4⟩ := struct_bulk fieldsClass (by simp) k2 (40, 3) (by simp)
 rw [cellsOf_one _ c_slots _ _ _ rfl] at k3
 rw [cellsOf_one _ c_methods _ _ _ rfl] at k4
 obtain ⟨l3, -⟩ := slice_bulk Tryz.underlying26 c_slot (by decide) (fun cs y hy => by obtain ⟨rfl, -⟩ := hy; rfl) k3 hf
 obtain ⟨l4, hall4⟩ := slice_bulk Tryz.underlying40 c_method (by decide) (fun cs y hy => by obtain ⟨_, _, rfl, -⟩ := hy; rfl) k4 hm
 refine ⟨by omega, by omega, fun m hmm => ?_⟩
 obtain ⟨n5, cs5, y5, hc5, k5, b5⟩ := hall4 m hmm
 obtain ⟨pv, bv, rfl, -, -, hps, -⟩ := hc5
 obtain ⟨n6, y6, k6, b6⟩ := struct_bulk fieldsMethod (by simp) k5 (26, 2) (by simp)
 rw [cellsOf_one _ c_slots _ _ _ rfl] at k6
 obtain ⟨l6, -⟩ := slice_bulk Tryz.underlying26 c_slot (by decide) (fun cs y hy => by obtain ⟨rfl, -⟩ := hy; rfl) k6 hps
 omega
end
end V
end Go.Proofs.YthhpcjoaogmhbaaGreatDoor
end
section
namespace Go.Proofs.YthhpcjoaogmhbaaGreatDoor
open Go.Shelf Go.RowKit Go.Lib
section
variable {P : Go.Program} {ρ : Ren}
set_option maxHeartbeats 2000000 in
set_option maxRecDepth 100000 in
theorem clone_zero (L : SlLaysE0.n41 P ρ) (i0 : TypeInfo) (z : Value) (size bytes : Nat) (hi : P.info? (ρ.t 23) = some i0) (hz0 : i0.zero = some z) (hz1 : i0.size = size) (hz2 : i0.bytes = bytes) (hzs : z.cells.size = size) (hsz : 0 < size)
 (z23 : ∀ w, (Go.sizeOf (ρ.t 23)).run P w = .ok size w) (p : Addr) (c : Nat) (w : World) :
 Calls P (ρ.f 41) #[.slice (some p) 0 c] w fun e w' => ∃ v', e = .returned v' ∧ w'.ownsRow w.heap.size (ρ.t 23) size v' 0 [] ∧ Below w.heap.size w w' := by
 have mixed := L.mixed; have t4 := L.t4; have a4 := L.a4; have z4 := L.z4; have v4 := L.v4; have t22 := L.t22; have a22 := L.a22; have z22 := L.z22; have v22 := L.v22
 have q22 : ∀ (w : World) (a : Option Addr) (n c n' c' : Nat), (binOp .eql (ρ.t 22) (.slice a n c) (.slice none n' c')).run P w = .ok (.bool a.isNone) w := fun w a n c n' c' => Lib.run_eql_slice_nil w _ _ a n c n' c' L.t22
 have u22 : ∀ w, Sem.run P (underlying (ρ.t 22)) w = .ok (TypeDesc.slice (ρ.t 23)) w := run_underlying t22
 obtain ⟨_, _, FG⟩ := L.f41
 go_enter FG, SlBodyN.n41_ntmps ρ
 go_wp2_with (at_builtin; refine wpList_append_own _ rfl _ _ (ρ.t 22) rfl w.heap.size (ρ.t 23) i0 z size bytes t22 hi hz0 hz1 hz2 hzs hsz _ _ _ rfl (World.ownsRow_made w #[] 0 (Nat.le_refl _) (Nat.zero_le _) (by simp)) p 0 c [] rfl ?qc1 ?qc2 ?qc3 ?qc4 ?qc5 ?qc6 ?_)
 case qc1 => simp
 case qc2 =>
  intro j u hj
  simp at hj
 case qc3 => intro u hu; cases hu
 case qc4 => rw [Nat.zero_add]; exact Nat.zero_le _
 case qc5 => rw [Nat.zero_add, Nat.zero_mul]; exact Nat.zero_le _
 case qc6 => simp
 intro v' w1 hown hgrow hnil
 go_wp2
 go_ret
 exact ⟨v', rfl, by simpa using hown, ((Below.refl _ w).alloc (Nat.le_refl _) _).grown hgrow (by simp) (by intro k hk; simp [Value.ownBlock] at hk; omega)⟩
end
namespace V
section
variable {w0 w w' : World} {I0 I I' : Nat → Nat → Prop} {B : Nat → Value} {M : Mem}
theorem foot_congr {B B' : Nat → Value} {j : Nat} {o : O} {k : Nat} (h : B' j = B j) : foot B' j o k = foot B j o k := by
 cases o <;> simp only [foot, h]
theorem MR.fresh (h : MR w0 I0 B I M w) {id : Nat} (hid : M id = none) {v : Value} {o' : O} (hb : Below w.heap.size w w') (hf : ∀ k, foot (upd B id v) id o' k → w.heap.size ≤ k ∧ k < w'.heap.size) (hE : Ext w w' I I')
 (hI' : ∀ b p, I' b p → I b p ∨ foot (upd B id v) id o' b) (hob : RO (upd B id v) w' I' id o') (hl : o'.ids = []) : MR w0 I0 (upd B id v) I' (upd M id (some o')) w' := by
 have hne : ∀ j, (M j).isSome = true → j ≠ id := fun j hj e => by subst e; rw [hid] at hj; cases hj
 have hB : ∀ j, (M j).isSome = true → upd B id v j = B j := fun j hj => upd_ne _ _ (hne j hj)
 have liv : ∀ j, (M j).isSome = true → (upd M id (some o') j).isSome = true := fun j hj => by rw [upd_ne _ _ (hne j hj)]; exact hj
 have other : ∀ {j : Nat} {z : O}, upd M id (some o') j = some z → (j = id ∧ z = o') ∨ (j ≠ id ∧ M j = some z) := fun {j z} hz => by
  unfold upd at hz
  split at hz
  ·rename_i e; exact .inl ⟨e, (Option.some.inj hz).symm⟩
  ·rename_i e; exact .inr ⟨e, hz⟩
 have hs0 := h.below.size
 refine ⟨h.below.trans ⟨hb.os, hb.tape, hb.output, hb.size, fun b hlt => hb.block b (Nat.lt_of_lt_of_le hlt hs0)⟩, h.glob, fun b o h0 => hE.more _ _ (h.base b o h0), fun b o hi => ?_, fun b o hi => ?_, fun j z hz => ?_, fun j z hz k hk => ?_, fun j z j' z' hz hz' hjj k hk hk' => ?_, fun j z hz i hi => ?_⟩
 ·rcases hI' b o hi with hi | hi
  ·exact h.old b o hi
  ·exact .inr (Nat.le_trans hs0 (hf b hi).1)
 ·rcases hI' b o hi with hi | hi
  ·exact Nat.lt_of_lt_of_le (h.there b o hi) hb.size
  ·exact (hf b hi).2
 ·rcases other hz with ⟨rfl, rfl⟩ | ⟨hj, hz⟩
  ·exact hob
  ·refine RO.mono hE (hB j (by simp [hz])) (fun i hi => hB i (h.live j z hz i hi)) (fun k hk => hb.block k (h.low j z hz k hk).2) (fun k hk p hp => ?_) (h.objs j z hz)
   rcases hI' k p hp with hp | hp
   ·exact hp
   ·exact absurd (hf k hp).1 (Nat.not_le.2 (h.low j z hz k hk).2)
 ·rcases other hz with ⟨rfl, rfl⟩ | ⟨hj, hz⟩
  ·exact ⟨Nat.le_trans hs0 (hf k hk).1, (hf k hk).2⟩
  ·rw [foot_congr (hB j (by simp [hz]))] at hk
   exact ⟨(h.low j z hz k hk).1, Nat.lt_of_lt_of_le (h.low j z hz k hk).2 hb.size⟩
 ·rcases other hz with ⟨e1, e2⟩ | ⟨hj, hy⟩
  ·rcases other hz' with ⟨e3, e4⟩ | ⟨hj', hy'⟩
   ·exact hjj (e1.trans e3.symm)
   ·rw [foot_congr (hB j' (by simp [hy']))] at hk'
    rw [e1, e2] at hk
    exact absurd (hf k hk).1 (Nat.not_le.2 (h.low j' z' hy' k hk').2)
  ·rw [foot_congr (hB j (by simp [hy]))] at hk
   rcases other hz' with ⟨e3, e4⟩ | ⟨hj', hy'⟩
   ·rw [e3, e4] at hk'
    exact absurd (hf k hk').1 (Nat.not_le.2 (h.low j z hy k hk).2)
   ·rw [foot_congr (hB j' (by simp [hy']))] at hk'
    exact h.apart j z j' z' hy hy' hjj k hk hk'
 ·rcases other hz with ⟨rfl, rfl⟩ | ⟨hj, hz⟩
  ·rw [hl] at hi; cases hi
  ·exact liv i (h.live j z hz i hi)
end
section
variable {P : Go.Program} {ρ : Ren}
theorem clone_run (L : SlLaysE0.n41 P ρ) {size bytes : Nat} (hty : ∃ i z, P.info? (ρ.t 23) = some i ∧ i.zero = some z ∧ i.size = size ∧ i.bytes = bytes ∧ z.cells.size = size) (hsz : 0 < size) {w : World} {I : Nat → Nat → Prop} {v : Value} {rows : List (List C)}
 (h : RC w I v (.sl rows)) (hrow : ∀ x ∈ rows, x.length = size) (hbig : rows.length * bytes ≤ 140737488355328) :
 Calls P (ρ.f 41) #[v] w fun e w' => ∃ v' vs, e = .returned v' ∧ w'.ownsRow w.heap.size (ρ.t 23) size v' rows.length vs ∧ RCs w I vs (flat rows) ∧ Below w.heap.size w w' := by
 obtain ⟨i, z, hi, hz, hs, hb, hzs⟩ := hty
 have z23 : ∀ w, (Go.sizeOf (ρ.t 23)).run P w = .ok size w := fun w => by simp [Go.sizeOf, typeInfo, hi, hs]
 obtain ⟨ad, my, cap, news, rfl, h1, h2, h3, h4, h5⟩ := news_of hsz h hrow
 cases h with
 | @sl _ _ _ e' _ f hn hc hmx hln ha hrr =>
   subst hn
   cases ad with
   | none =>
     have hr : rows = [] := by
      cases rows with
      | nil => rfl
      | cons x l => obtain ⟨b, off, e, -⟩ := ha 0 x rfl; cases e
     subst hr
     refine (AnyE.slices_Clone_nil L _ cap w).mono ?_
     rintro e w' ⟨rfl, rfl⟩
     exact ⟨_, [], rfl, ⟨by simp, .inl ⟨rfl, rfl⟩⟩, trivial, Below.refl _ _⟩
   | some p =>
     cases rows with
     | nil =>
       refine (clone_zero L i z size bytes hi hz hs hb hzs hsz z23 p cap w).mono ?_
       rintro e w' ⟨v', rfl, ho, hbl⟩
       exact ⟨v', [], rfl, ho, trivial, hbl⟩
     | cons x l =>
       obtain ⟨b, off, e, -⟩ := ha 0 x rfl
       cases e
       refine (AnyE.slices_Clone L i z size bytes hi hz hs hb hzs hsz z23 b off (x :: l).length cap news w h2 (Nat.le_trans hc hmx) hbig (fun j u hj => ?_) h5).mono ?_
       ·obtain ⟨a, e, hcell⟩ := h3 j u hj
        cases e
        rw [Addr.add_lit] at hcell
        exact hcell
       ·rintro e w' ⟨v', rfl, ho, -, hbl⟩
        exact ⟨v', news, rfl, ho, h4, hbl⟩
theorem clone_mut (L : SlLaysE0.n41 P ρ) {size bytes : Nat} (hty : ∃ i z, P.info? (ρ.t 23) = some i ∧ i.zero = some z ∧ i.size = size ∧ i.bytes = bytes ∧ z.cells.size = size) (hsz : 0 < size) (hen : ∀ args w, (callFunc (ρ.f 41) args).run P w = .ok (.enter (ρ.f 41) args) w)
 (rows : List (List C)) (hrow : ∀ x ∈ rows, x.length = size) (hbig : rows.length * bytes ≤ 140737488355328) (M : Mem) (id : Nat) (hid : M id = none) : CallE P (ρ.f 41) [.c (.sl rows)] M [] (.own id) (upd M id (some (.mrow (ρ.t 23) size rows))) := by
 have hne : ∀ j, (M j).isSome = true → j ≠ id := fun j hj e => by subst e; rw [hid] at hj; cases hj
 have liv : ∀ j, (M j).isSome = true → (upd M id (some (.mrow (ρ.t 23) size rows)) j).isSome = true := fun j hj => by rw [upd_ne _ _ (hne j hj)]; exact hj
 refine ⟨hen, fun j hj => ?_, liv, fun hw i o ho j hj => ?_, ?_⟩
 ·obtain rfl : j = id := by simpa [A.ids] using hj
  rw [upd_same]; rfl
 ·unfold upd at ho
  split at ho
  ·cases ho; simp [O.ids] at hj
  ·exact liv j (hw i o ho j hj)
 ·intro w0 I0 B I w vals hm hv
  match vals, hv with
  | [v], ⟨h1, _⟩ =>
    have h1 : RC w I v (.sl rows) := h1
    refine (clone_run L hty hsz h1 hrow hbig).mono ?_
    rintro e w' ⟨v', vs, rfl, ⟨hl, ho⟩, hvs, hbl⟩
    have hE : Ext w w' I I := ⟨fun _ _ k => k, fun b o k => hbl.cell (p := ⟨b, o, none⟩) (hm.there b o k)⟩
    have hf : ∀ k, v'.ownBlock = some k → w.heap.size ≤ k ∧ k < w'.heap.size := fun k hk => by
     rcases ho with ⟨rfl, -⟩ | ⟨g, cap, cur, rfl, hg, hcell, -⟩
     ·cases hk
     ·obtain rfl : g = k := by simpa [Value.ownBlock] using hk
      exact ⟨hg, (Array.getElem?_eq_some_iff.1 hcell).1⟩
    refine ⟨v', upd B id v', I, rfl, hm.fresh hid hbl (fun k hk => hf k (by have hk : (upd B id v' id).ownBlock = some k := hk; rwa [upd_same] at hk)) hE (fun b p k => .inl k) ⟨vs, ⟨hl, ?_⟩, hvs.mono hE, hrow, fun b hb o => ?_⟩ rfl, hE, fun j hj _ => upd_ne _ _ (hne j hj), (upd_same ..).symm, ?_⟩
    ·rw [upd_same]
     rcases ho with ⟨e, hn⟩ | ⟨g, cap, cur, e, hg, hcell, q1, q2, q3, q4⟩
     ·exact .inl ⟨e, hn⟩
     ·exact .inr ⟨g, 0, cap, cur, e, hcell, q1, q2, by omega, by simpa using q4⟩
    ·rw [upd_same] at hb
     exact fun k => absurd (hm.there _ _ k) (Nat.not_lt.2 (hf b hb).1)
    ·rcases ho with ⟨e, hn⟩ | ⟨g, cap, cur, e, -⟩
     ·exact ⟨none, 0, 0, e⟩
     ·exact ⟨_, _, _, e⟩
theorem clone_ok (L : SlLaysE0.n41 P ρ) {size bytes : Nat} (hty : ∃ i z, P.info? (ρ.t 23) = some i ∧ i.zero = some z ∧ i.size = size ∧ i.bytes = bytes ∧ z.cells.size = size) (hsz : 0 < size) (hen : ∀ args w, (callFunc (ρ.f 41) args).run P w = .ok (.enter (ρ.f 41) args) w)
 (rows : List (List C)) (hrow : ∀ x ∈ rows, x.length = size) (hbig : rows.length * bytes ≤ 140737488355328) (m : Mem) : COk P (ρ.f 41) [.c (.sl rows)] m (.c (.sl rows)) := by
 refine ⟨hen, rfl, fun m' _ => ?_⟩
 intro w0 I0 B I w vals hm hv
 match vals, hv with
 | [v], ⟨h1, _⟩ =>
   have h1 : RC w I v (.sl rows) := h1
   refine (clone_run L hty hsz h1 hrow hbig).mono ?_
   rintro e w' ⟨v', vs, rfl, ⟨hl, ho⟩, hvs, hbl⟩
   let I' : Nat → Nat → Prop := fun b o => I b o ∨ (v'.ownBlock = some b ∧ o < rows.length * size)
   have hE : Ext w w' I I' := ⟨fun _ _ k => .inl k, fun b o k => hbl.cell (p := ⟨b, o, none⟩) (hm.there b o k)⟩
   refine ⟨v', I', rfl, hbl, hE.more, fun b o k => ?_, ?_⟩
   ·rcases k with k | ⟨k, -⟩
    ·exact .inl k
    ·rcases ho with ⟨rfl, -⟩ | ⟨g, cap, cur, rfl, hg, hcell, -⟩
     ·cases k
     ·obtain rfl : g = b := by simpa [Value.ownBlock] using k
      exact .inr ⟨hg, (Array.getElem?_eq_some_iff.1 hcell).1⟩
   ·show RC w' I' v' (.sl rows)
    have hvs' := hvs.mono hE
    rcases ho with ⟨rfl, hn⟩ | ⟨g, cap, cur, rfl, hg, hcell, q1, q2, q3, q4⟩
    ·obtain rfl : rows = [] := List.length_eq_zero_iff.1 hn
     exact RC.sl (e := 0) (fun _ _ => undef) rfl (Nat.le_refl _) (Nat.zero_le _) (fun x hx => by cases hx) (fun i x hx => by simp at hx) (fun i j x c hx _ => by simp at hx)
    ·have hat : ∀ i j x, rows[i]? = some x → j < size → i * size + j < rows.length * size := fun i j x hx hj => by
      have hi := (List.getElem?_eq_some_iff.1 hx).1
      have : (i + 1) * size ≤ rows.length * size := Nat.mul_le_mul_right _ hi
      rw [Nat.add_mul] at this
      omega
     refine RC.sl (e := size) (fun i j => vs.getD (i * size + j) undef) rfl q1 q2 hrow (fun i x hx => ⟨g, 0, rfl, fun j hj => ⟨.inr ⟨rfl, by have := hat i j x hx hj; omega⟩, ?_⟩⟩) (fun i j x c hx hc => ?_)
     ·have hlt := hat i j x hx hj
      have hcur : cur[i * size + j]? = vs[i * size + j]? := by
       rw [← q4, List.getElem?_take, if_pos hlt, Array.getElem?_toList]
      show w'.cell? ⟨g, 0 + i * size + j, none⟩ = some (vs.getD (i * size + j) undef)
      rw [Nat.zero_add]
      have hv : vs[i * size + j]? = some (vs.getD (i * size + j) undef) := by
       rw [List.getD_eq_getElem?_getD, List.getElem?_eq_getElem (by omega)]; rfl
      rw [← hv, ← hcur]
      simp [World.cell?, hcell]
     ·have hj : j < size := by rw [← hrow x (List.mem_of_getElem? hx)]; exact (List.getElem?_eq_some_iff.1 hc).1
      have hlt := hat i j x hx hj
      have hfl := flat_at hrow i j x hx hj
      rw [hc] at hfl
      obtain ⟨u, hu, hr⟩ := hvs'.at _ _ hfl
      rw [List.getD_eq_getElem?_getD, hu]
      exact hr
end
end V
end Go.Proofs.YthhpcjoaogmhbaaGreatDoor
end
section
namespace Go.Proofs.YthhpcjoaogmhbaaGreatDoor
namespace V
open Go.RowKit
section
variable {w0 w : World} {I0 I : Nat → Nat → Prop} {B : Nat → Value} {m : Mem}
theorem MR.moreI (h : MR w0 I0 B I m w) {N : Nat → Nat → Prop} (hN : ∀ b o, N b o → w0.heap.size ≤ b ∧ b < w.heap.size ∧ ∀ j z, m j = some z → ¬ foot B j z b) : MR w0 I0 B (fun b o => I b o ∨ N b o) m w :=
 ⟨h.below, h.glob, fun b o k => .inl (h.base b o k), fun b o k => k.elim (h.old b o) fun k => .inr (hN b o k).1, fun b o k => k.elim (h.there b o) fun k => (hN b o k).2.1,
   fun j z hz => RO.mono ⟨fun _ _ k => .inl k, fun _ _ _ => rfl⟩ rfl (fun _ _ => rfl) (fun _ _ => rfl) (fun k hk p hp => hp.elim id fun hp => absurd hk ((hN k p hp).2.2 j z hz)) (h.objs j z hz), h.low, h.apart, h.live⟩
theorem MR.freeze (h : MR w0 I0 B I m w) {id : Nat} {ty : TypeId} {e : Nat} {xs : List (List C)} (hid : m id = some (.mrow ty e xs)) :
 ∃ I', MR w0 I0 (upd B id (.slice none 0 0)) I' (upd (killM id m) id (some (.arr ty e []))) w ∧ Ext w w I I' ∧ RC w I' (B id) (.sl xs) := by
 have hob := h.objs id _ hid
 obtain ⟨vs, hrow, hvs, hlx, hnI⟩ := hob
 have hnew : RO (upd B id (.slice none 0 0)) w I id (.arr ty e []) := ⟨[], ⟨by simp, .inl ⟨upd_same .., rfl⟩⟩, trivial, (fun x hx => by cases hx), (fun b hb o => by rw [upd_same] at hb; cases hb)⟩
 have h1 := h.reval (v' := .slice none 0 0) (o' := .arr ty e []) (w' := w) (I' := I) hid rfl rfl rfl (Nat.le_refl _) (fun _ _ _ => rfl) (fun k hk => by
  have hk : (upd B id (.slice none 0 0) id).ownBlock = some k := hk
  rw [upd_same] at hk; cases hk) (Ext.refl _ _) (fun b p k => .inl k)
  hnew (fun i hi => by simp [O.ids] at hi)
 have h2 := h1.moreI (N := fun b o => (B id).ownBlock = some b) (fun b o hb => by
  have hf : foot B id (.mrow ty e xs) b := hb
  refine ⟨(h.low id _ hid b hf).1, (h.low id _ hid b hf).2, fun j z hz hk => ?_⟩
  unfold upd at hz
  split at hz
  ·rename_i ej
   cases hz
   subst ej
   have hk : (upd B j (.slice none 0 0) j).ownBlock = some b := hk
   rw [upd_same] at hk; cases hk
  ·rename_i ej
   rw [killM_app] at hz
   cases hmj : m j with
   | none => rw [hmj] at hz; cases hz
   | some z0 =>
     rw [hmj] at hz
     cases hz
     exact h.apart j z0 id _ hmj hid ej b ((foot_kill (upd_ne _ _ ej)).1 hk) hf)
 refine ⟨_, h2, ⟨fun _ _ k => .inl k, fun _ _ _ => rfl⟩, ?_⟩
 have hvs' : RCs w (fun b o => I b o ∨ (B id).ownBlock = some b) vs (flat xs) := hvs.mono ⟨fun _ _ k => .inl k, fun _ _ _ => rfl⟩
 obtain ⟨hl, ho⟩ := hrow
 rcases ho with ⟨ev, hn⟩ | ⟨g, off, cap, cur, ev, hcell, q1, q2, q3, q4⟩
 ·obtain rfl : xs = [] := List.length_eq_zero_iff.1 hn
  rw [ev]
  exact RC.sl (e := 0) (fun _ _ => undef) rfl (Nat.le_refl _) (Nat.zero_le _) (fun x hx => by cases hx) (fun i x hx => by simp at hx) (fun i j x c hx _ => by simp at hx)
 ·have hat : ∀ i j x, xs[i]? = some x → j < e → i * e + j < xs.length * e := fun i j x hx hj => by
   have hi := (List.getElem?_eq_some_iff.1 hx).1
   have : (i + 1) * e ≤ xs.length * e := Nat.mul_le_mul_right _ hi
   rw [Nat.add_mul] at this
   omega
  rw [ev] at hvs' ⊢
  refine RC.sl (e := e) (fun i j => vs.getD (i * e + j) undef) rfl q1 q2 hlx (fun i x hx => ⟨g, off, rfl, fun j hj => ⟨.inr rfl, ?_⟩⟩) (fun i j x c hx hc => ?_)
  ·have hlt := hat i j x hx hj
   have hcur : cur[off + (i * e + j)]? = vs[i * e + j]? := by
    rw [← q4, List.getElem?_take, if_pos hlt, List.getElem?_drop, Array.getElem?_toList]
   rw [Nat.add_assoc]
   have hv : vs[i * e + j]? = some (vs.getD (i * e + j) undef) := by
    rw [List.getD_eq_getElem?_getD, List.getElem?_eq_getElem (by omega)]; rfl
   rw [← hv, ← hcur]
   simp [World.cell?, hcell]
  ·have hj : j < e := by rw [← hlx x (List.mem_of_getElem? hx)]; exact (List.getElem?_eq_some_iff.1 hc).1
   have hfl := flat_at hlx i j x hx hj
   rw [hc] at hfl
   obtain ⟨u, hu, hr⟩ := hvs'.at _ _ hfl
   rw [List.getD_eq_getElem?_getD, hu]
   exact hr
end
section
variable {P : Go.Program}
theorem W.freeze {R : Ref} {n : Nat} {ds : List Deferred} {st : St} {c : Code} {K : Exit → St → Prop} (t id : Nat) {ty : TypeId} {e : Nat} {xs : List (List C)} (ht : st.s t = .own id) (hid : st.m id = some (.mrow ty e xs)) (hkp : ¬ R.keep id)
 (h : W P R n ds ⟨upd (killS id st.s) t (.c (.sl xs)), upd (killM id st.m) id (some (.arr ty e []))⟩ c K) : W P R n ds st c K := by
 intro a w hr
 refine h a w ?_
 obtain ⟨⟨B, I, hm, hx0, hkp0, hs⟩, h2, h3, hnn, h4, h5⟩ := hr
 obtain ⟨I', hm', hE, hrc⟩ := hm.freeze hid
 have hBne : ∀ j, j ≠ id → upd B id (.slice none 0 0) j = B j := fun j hj => upd_ne _ _ hj
 have liv : ∀ i, (st.m i).isSome = true → (upd (killM id st.m) id (some (.arr ty e [])) i).isSome = true := fun i hi => by
  unfold upd; split
  ·rfl
  ·rw [killM_app]; simpa using hi
 have hown : RV B w I (.own id) (a.tmps.getD t undef) := ht ▸ hs t
 have hval : a.tmps.getD t undef = B id := hown.1
 refine ⟨⟨_, I', hm', hx0.trans hE, fun j hj => (hBne j (fun e => hkp (e ▸ hj))).trans (hkp0 j hj), fun u => ?_⟩, fun u j hj => ?_, h3, hnn, ?_, fun i hi => liv i (h5 i hi)⟩
 ·show RV _ w I' (upd (killS id st.s) t (.c (.sl xs)) u) _
  by_cases hu : u = t
  ·subst hu
   rw [upd_same, hval]
   exact hrc
  ·rw [upd_ne _ _ hu, killS_app]
   rcases (A.kill_ids (id := id) (a := st.s u)).2 with k | ⟨k, hn⟩
   ·rw [k]; trivial
   ·rw [k]
    exact (hs u).mono hE fun i hi => hBne i (fun e => hn (e ▸ hi))
 ·have hj : j ∈ (upd (killS id st.s) t (.c (.sl xs)) u).ids := hj
  by_cases hu : u = t
  ·subst hu; rw [upd_same] at hj; simp [A.ids] at hj
  ·rw [upd_ne _ _ hu, killS_app] at hj
   exact liv j (h2 u j ((A.kill_ids (id := id) (a := st.s u)).1 j hj).1)
 ·show _ = dfs (upd (killS id st.s) t (.c (.sl xs)) DID) ++ ds
  by_cases e : DID = t
  ·rw [← e, upd_same]
   rw [← e] at ht
   rw [ht] at h4
   exact h4
  ·rw [upd_ne _ _ e, killS_app, dfs_kill]
   exact h4
end
end V
end Go.Proofs.YthhpcjoaogmhbaaGreatDoor
end
section
namespace Go.Proofs.YthhpcjoaogmhbaaGreatDoor
namespace V
open Go.RowKit
section
variable {P : Go.Program} {T : Tab} {base : Nat} {ops : Array Oper} (hT : T.Ok P) {R : Ref} {w : World} {n : Nat} {ds : List Deferred} {l n' : Nat}
include hT
theorem plain_round (hd : ∀ o ∈ ops, ∀ d, o.dst = some d → d < n) (hnd : noDefer ops = true) {Q : Exit → Act → World → Prop} {st' : St} (hQ : ∀ a w, SR R n ds st' a w → Q .normal a w) :
 ∀ (L : List Nat) (st : St) (a : Act) (w : World), Chain P T R.keep base ops L st st' → SR R n ds st a w → wpOpsIn (Fence.wide.inRound l) n' P ops Q L a w
 | [], st, a, w, h, hr => by cases h; exact hQ a w hr
 | i :: L, st, a, w, h, hr => by
   cases h with
   | @cons _ o _ _ st1 _ hi h1 t =>
     unfold wpOpsIn
     simp only [hi]
     have hgo := h1.snd hT hr (hd o (Array.mem_of_getElem? hi)) (K := wpOpsIn (Fence.wide.inRound l) n' P ops Q L) (Q := Q) (fun a' w' hr' => plain_round hd hnd hQ L st1 a' w' t hr')
     split
     ·rename_i hw; rw [if_pos hw] at hgo; exact oper_round (noDefer_spec hnd hi) hgo
     ·rename_i hw; rw [if_neg hw] at hgo; exact ⟨fun _ _ => trivial, hgo⟩
end
def WI (l n' : Nat) (P : Go.Program) (R : Ref) (n : Nat) (ds : List Deferred) (st : St) (c : Code) (K : Exit → St → Prop) : Prop :=
 ∀ a w, SR R n ds st a w → c.wpIn (Fence.wide.inRound l) n' P (fun e a' w' => ∃ st', K e st' ∧ SR R n ds st' a' w') a w
section
variable {l n' : Nat} {P : Go.Program} {T : Tab} {R : Ref} {n : Nat} {ds : List Deferred} {st : St} {K : Exit → St → Prop}
theorem WI.mono {c : Code} {K' : Exit → St → Prop} (h : WI l n' P R n ds st c K) (hk : ∀ e st', K e st' → K' e st') : WI l n' P R n ds st c K' :=
 fun a w hr => wpIn_mono (h a w hr) fun e _ _ ⟨st', h1, h2⟩ => ⟨st', hk e st' h1, h2⟩
theorem WI.region (hT : T.Ok P) (base : Nat) {id : Nat} {ops : Array Oper} {st' : St} (hd : dstOk n ops = true) (hnd : noDefer ops = true) (h : RunL P T R.keep base ops ops.toList st st') (hk : K .normal st') : WI l n' P R n ds st (.region id ops false) K := fun a w hr =>
 wpIn_region (plain_round hT (dstOk_spec hd) hnd (fun a w hr' => ⟨st', hk, hr'⟩) _ st a w (by rw [range_range']; have := h.chain (k := 0) (by simp); simpa using this) hr)
theorem WI.regionD (hT : T.Ok P) (base : Nat) {id : Nat} {ops : Array Oper} {st' : St} (hm : P.follows .mixedOrders = true) (hok : okRegion T ops = true) (hd : dstOk n ops = true) (hnd : noDefer ops = true) (h : RunL P T R.keep base ops ops.toList st st') (hk : K .normal st') : WI l n' P R n ds st (.region id ops true) K := fun a w hr => by
 refine wpIn_mono (Q := fun e a w => e = .normal ∧ SR R n ds st' a w) (region_round (fun ⟨_, _, h, _⟩ => by cases h) hm hnd (any_snd hT hok (dstOk_spec hd) (fun a w hr' => ⟨rfl, hr'⟩) _ _ (List.range ops.size) st a _ (by simp) (by simp) (List.pairwise_lt_range) (fun i => ?_) (fun k o ho hl => ?_) ?_ (by rw [range_range']; have := h.chain (k := 0) (by simp); simpa using this))) fun e a w h => ⟨st', h.1 ▸ hk, h.2⟩
 ·rw [List.mem_range]
  refine ⟨fun hi => ⟨hi, ?_⟩, fun hi => hi.1⟩
  simp [hi]
 ·exfalso
  have hk := (Array.getElem?_eq_some_iff.1 ho).1
  simp [hk] at hl
 ·obtain ⟨⟨B, I, hmr, hx0, hkp, hs⟩, h2, h3, hnn, h4, h5⟩ := hr
  have hE : Ext w w.drew I I := ⟨fun _ _ k => k, fun _ _ _ => rfl⟩
  exact ⟨⟨B, I, hmr.call (Below.refl _ _).drew, hx0.trans hE, hkp, fun t => (hs t).mono hE fun _ _ => rfl⟩, h2, h3, hnn, h4, h5⟩
theorem WI.seq {x y : Code} (h : WI l n' P R n ds st x (thenK (fun st' => WI l n' P R n ds st' y K) K)) : WI l n' P R n ds st (.seq x y) K := fun a w hr =>
 wpIn_seq (wpIn_mono (h a w hr) fun e a' w' ⟨st', h1, h2⟩ => by
  cases e with
  | normal => exact h1 a' w' h2
  | _ => exact ⟨st', h1, h2⟩)
theorem WI.cond {c : Operand} {x y : Code} {b : Bool} (hc : ev st.s c = .c (.bool b)) (ht : b = true → WI l n' P R n ds st x K) (hf : b = false → WI l n' P R n ds st y K) : WI l n' P R n ds st (.cond c x y) K := fun a w hr => by
 obtain ⟨B, I, hm, -, -, hs⟩ := hr.ex
 have := ev_rv hs c
 rw [hc] at this
 exact wpIn_cond_split (RC.toBool this) (fun e => ht e a w hr) (fun e => hf e a w hr)
theorem WI.block {id : Nat} {c : Code} (h : WI l n' P R n ds st c (blockK id K)) : WI l n' P R n ds st (.block id c) K := fun a w hr =>
 wpIn_block (wpIn_mono (h a w hr) fun e a' w' ⟨st', h1, h2⟩ => by
  cases e with
  | exit j =>
    simp only [blockK, Exit.inBlock] at h1 ⊢
    split
    ·rename_i e; rw [if_pos e] at h1; exact ⟨st', h1, h2⟩
    ·rename_i e; rw [if_neg e] at h1; exact ⟨st', h1, h2⟩
  | _ => exact ⟨st', h1, h2⟩)
theorem WI.exit {id : Nat} (h : K (.exit id) st) : WI l n' P R n ds st (.exit id) K := fun _ _ hr => wpIn_exit ⟨st, h, hr⟩
theorem WI.ret (h : K .ret st) : WI l n' P R n ds st .ret K := fun _ _ hr => wpIn_ret ⟨st, h, hr⟩
theorem WI.skip (h : K .normal st) : WI l n' P R n ds st .skip K := fun _ _ hr => wpIn_skip ⟨st, h, hr⟩
theorem WI.weaken {st' : St} {c : Code} (hl : Le R.keep st st') (h : WI l n' P R n ds st' c K) : WI l n' P R n ds st c K := fun a w hr => h a w (hr.le hl)
theorem WI.loop {ι : Type} {c : Code} (mk : ι → St) (Inv : ι → Prop) (μ : ι → Nat) (i0 : ι) (hl : Le R.keep st (mk i0)) (h0 : Inv i0)
 (hround : ∀ i, Inv i → WI l n' P R n ds (mk i) c (thenK (fun st' => ∃ i', Inv i' ∧ μ i' < μ i ∧ Le R.keep st' (mk i')) K)) : WI l n' P R n ds st (.loop c) K := by
 refine WI.weaken hl ?_
 intro a w hr
 refine wpIn_loop_ghost (fun k a w => ∃ i, Inv i ∧ μ i = k ∧ SR R n ds (mk i) a w) (μ i0) ⟨i0, h0, rfl, hr⟩ ?_
 rintro k a w ⟨i, hi, rfl, hr⟩
 refine wpIn_mono (hround i hi a w hr) ?_
 rintro e a' w' ⟨st', h1, h2⟩
 cases e with
 | normal =>
   obtain ⟨i', hi', hlt, hle⟩ := h1
   exact ⟨μ i', hlt, i', hi', rfl, h2.le hle⟩
 | _ => exact ⟨st', h1, h2⟩
theorem WI.regionK (hT : T.Ok P) (base : Nat) {id : Nat} {ops : Array Oper} (hd : dstOk n ops = true) (hnd : noDefer ops = true) (h : RunK P T R.keep base ops ops.toList st (K .normal)) : WI l n' P R n ds st (.region id ops false) K :=
 let ⟨_, h1, h2⟩ := h
 WI.region hT base hd hnd h1 h2
theorem WI.regionDK (hT : T.Ok P) (base : Nat) {id : Nat} {ops : Array Oper} (hm : P.follows .mixedOrders = true) (hok : okRegion T ops = true) (hd : dstOk n ops = true) (hnd : noDefer ops = true) (h : RunK P T R.keep base ops ops.toList st (K .normal)) : WI l n' P R n ds st (.region id ops true) K :=
 let ⟨_, h1, h2⟩ := h
 WI.regionD hT base hm hok hd hnd h1 h2
end
end V
end Go.Proofs.YthhpcjoaogmhbaaGreatDoor
end
section
namespace Go.Proofs.YthhpcjoaogmhbaaGreatDoor
namespace V
open Go.RowKit
section
variable {w0 w w' : World} {I0 I : Nat → Nat → Prop} {B : Nat → Value} {mem : Mem}
theorem MR.newRaw (h : MR w0 I0 B I mem w) {id : Nat} (hid : mem id = none) (x : Obj) :
 MR w0 I0 (upd B id (.pointer (some ⟨w.heap.size, 0, none⟩))) I (upd mem id (some (.raw x))) (w.alloc x) :=
 h.alloc hid ⟨w.heap.size, upd_same .., heap_alloc_new _ _, fun p hp => by have := h.there _ _ hp; omega⟩ (fun k hk => by
  obtain ⟨off, hk⟩ := hk
  rw [upd_same] at hk
  cases hk; rfl) (fun j hj => by simp [O.ids] at hj)
theorem MR.putRaw (h : MR w0 I0 B I mem w) {id b : Nat} {x : Obj} (hid : mem id = some (.raw x)) (hB : B id = .pointer (some ⟨b, 0, none⟩)) (y : Obj) :
 MR w0 I0 B I (upd mem id (some (.raw y))) (w.putObj b y) ∧ Ext w (w.putObj b y) I I := by
 have hf : foot B id (.raw x) b := ⟨0, hB⟩
 obtain ⟨l0, l1⟩ := h.low id _ hid b hf
 obtain ⟨b', e1, hx, hI⟩ := h.objs id _ hid
 rw [hB] at e1; cases e1
 refine h.turn hid hf (fun k hk => ?_) hI rfl rfl rfl ?_ (fun k hk => World.putObj_heap_other hk) (fun i hi => by simp [O.ids] at hi) (fun _ => ⟨b, hB, World.putObj_heap_same l1, hI⟩)
 ·obtain ⟨off, hk⟩ := hk
  rw [hB] at hk; cases hk; rfl
 ·show (w.heap.setIfInBounds _ _).size = _
  simp
theorem MR.toHole (h : MR w0 I0 B I mem w) {id : Nat} {o : O} (hid : mem id = some o) (hb : ∃ b, B id = .pointer (some ⟨b, 0, none⟩) ∧ (∀ p, ¬ I b p) ∧ ∀ k, foot B id o k ↔ k = b) : MR w0 I0 B I (upd mem id (some .hole)) w := by
 obtain ⟨b, hB, hI, hf⟩ := hb
 exact (h.turn (o' := .hole) hid ((hf b).2 rfl) (fun k hk => by obtain ⟨off, hk⟩ := hk; rw [hB] at hk; cases hk; rfl) hI rfl rfl rfl rfl (fun _ _ => rfl) (fun i hi => by simp [O.ids] at hi) (fun _ => ⟨b, hB, hI⟩)).1
theorem MR.ofHole (h : MR w0 I0 B I mem w) {id b : Nat} {x : Obj} (hid : mem id = some .hole) (hB : B id = .pointer (some ⟨b, 0, none⟩)) (hx : w.heap[b]? = some x) : MR w0 I0 B I (upd mem id (some (.raw x))) w := by
 obtain ⟨b', e1, hI⟩ := h.objs id _ hid
 rw [hB] at e1; cases e1
 exact (h.turn (o' := .raw x) hid ⟨0, hB⟩ (fun k hk => by obtain ⟨off, hk⟩ := hk; rw [hB] at hk; cases hk; rfl) hI rfl rfl rfl rfl (fun _ _ => rfl) (fun i hi => by simp [O.ids] at hi) (fun _ => ⟨b, hB, hx, hI⟩)).1
end
end V
end Go.Proofs.YthhpcjoaogmhbaaGreatDoor
end
section
namespace Go.Proofs.YthhpcjoaogmhbaaGreatDoor
namespace V
open Go.RowKit
def loopRec (fn : FuncId) (tmps : Array Value) (ps : Array Tmp) (assign body : Code) (D : Nat) (st : LoopState) (pe : Option Code) : Obj :=
 .loop { state := st, pending := pe, fn, tmps, params := ps, assign, body, defers := D }
end V
end Go.Proofs.YthhpcjoaogmhbaaGreatDoor
end
section
namespace Go.Proofs.YthhpcjoaogmhbaaGreatDoor
namespace V
open Go.RowKit Go.Shelf
attribute [local go_sem] Oper.semAt_some
def AbidesI (b2 : Nat) (J : Nat → (Nat → Nat → Prop) → World → Prop) : Prop := ∀ k I W W' row, J k I W → W.grownBy W' row → (∀ r, row = some r → r = b2) → J k I W'
theorem class_cells {w : World} {I : Nat → Nat → Prop} {a : Option Addr} {N cap : Nat} {cs : List Class} (h : RC w I (.slice a N cap) (.sl (cs.map cClass))) {j : Nat} {c : Class} (hc : cs[j]? = some c) :
 ∃ b off fv mv, a = some ⟨b, off, none⟩ ∧ RCs w I [.string c.name, .string c.super, fv, mv] (cClass c) ∧ cellsAt w b (off + j * 4) [.string c.name, .string c.super, fv, mv] := by
 cases h with
 | @sl _ _ _ e _ f hn hcp hm hl ha hr =>
   have hx : (cs.map cClass)[j]? = some (cClass c) := by simp [hc]
   have he : e = 4 := (hl _ (List.mem_of_getElem? hx)).symm
   subst he
   obtain ⟨b, off, ea, hcell⟩ := ha j _ hx
   have h0 := RC.toStr (hr j 0 _ _ hx rfl)
   have h1 := RC.toStr (hr j 1 _ _ hx rfl)
   have r0 := hr j 0 _ _ hx rfl
   have r1 := hr j 1 _ _ hx rfl
   have r2 := hr j 2 _ _ hx rfl
   have r3 := hr j 3 _ _ hx rfl
   rw [h0.1] at r0
   rw [h1.1] at r1
   refine ⟨b, off, f j 2, f j 3, ea, ⟨r0, r1, r2, r3, trivial⟩, ?_, ?_, ?_, ?_, trivial⟩
   ·have := (hcell 0 (by decide)).2; rw [h0.1] at this; exact this
   ·have := (hcell 1 (by decide)).2; rw [h1.1] at this; exact this
   ·exact (hcell 2 (by decide)).2
   ·exact (hcell 3 (by decide)).2
set_option maxRecDepth 100000 in
set_option maxHeartbeats 4000000 in
theorem up1_v (n : Nat) (hn : 1 ≤ n) (l b1 b2 : Nat) (cv mv : Value) (cs : List Class) (name : ByteArray) (hlen : cs.length ≤ 1000000000) (J : Nat → (Nat → Nat → Prop) → World → Prop) (Jx : World → Prop)
 (hJ : AbidesI b2 J) (h12 : b1 ≠ b2)
 (hJR : ∀ k I W, J k I W → (∀ b o, I b o → b < W.heap.size) ∧ RC W I cv (.sl (cs.map cClass)) ∧ W.heap[b1]? = some (.cells #[cv, mv] 25))
 (hY : ∀ k I W j c vs, J k I W → (upX cs (cs.length + 1) 0 name)[k]? = some (k, j) → cs[j]? = some c → RCs W I vs (cClass c) → YieldAt Fence.wide (n - 1) Tryz.prog l #[.int .i64 (k : Int), .agg vs.toArray] W fun e W' =>
   (e = .returned (.bool true) ∧ (∃ I', J (k + 1) I' W') ∧ W'.heap[b2]? = W.heap[b2]?) ∨ (e = .returned (.bool false) ∧ Jx W'))
 (W : World) (I0 : Nat → Nat → Prop) (hb2 : W.heap[b2]? = some (.cells #[.string name] 9)) (h0 : J 0 I0 W) :
 CallsIn Fence.wide n Tryz.prog 92 #[.func (.yield l) #[] #[], .pointer (some ⟨b1, 0, none⟩), .pointer (some ⟨b2, 0, none⟩)] W fun e W' => (∃ v, e = .returned v) ∧
  ((∃ I, J (upX cs (cs.length + 1) 0 name).length I W') ∨ Jx W') := by
 obtain ⟨hIW, hRW, hb1⟩ := hJR _ _ _ h0
 obtain ⟨d, hRC⟩ := rc_classes (w := W) (I := I0) hIW (v := cv) (l := cs)
 obtain ⟨a, N, cap, rfl, hN, -, -, -⟩ := hRC hRW
 have HN := Lib.hid hN
 have HY := Lib.hid hY
 have HJ := Lib.hid hJ
 have HJR := Lib.hid hJR
 have HB1 := Lib.hid hb1
 have HB2 := Lib.hid hb2
 have hNl : N ≤ 1000000000 := by omega
 have c1 : W.cell? ⟨b1, 0, none⟩ = some (.slice a N cap) := by simp [World.cell?, hb1]
 clear hN hY hJ hJR hb1 hb2 hRC hIW hRW
 refine callsIn_of_wp Tryz.func92 rfl trivial ?_ rfl
 simp only [Tryz.ntmps92, List.size_toArray, List.length_cons, List.length_nil, Nat.reduceAdd, Nat.reduceSub, Array.replicate_succ, Array.replicate_zero, List.push_toArray, List.append_toArray, List.nil_append, List.cons_append]
 gi_wp2
 gi_loopw [10] (fun v10 wr => ∃ (m : Nat) (I : Nat → Nat → Prop) (cur : ByteArray), m ≤ N + 1 ∧ v10 = .int .i64 m ∧ Hid (∃ pre : List (Nat × Nat), pre.length = m ∧ upX cs (cs.length + 1) 0 name = pre ++ upX cs (N + 1 - m) m cur) ∧ Hid (J m I wr) ∧ Hid (wr.heap[b2]? = some (.cells #[.string cur] 9))) (fun v10 _ => N + 1 - (intOf v10).toNat)
 case atStart => exact ⟨0, I0, name, by omega, rfl, ⟨[], rfl, by rw [HN.out]; rfl⟩, h0, HB2.out⟩
 case round =>
  obtain ⟨m, I, cur, hm, rfl, HPX, HJP, HC2⟩ := hrel
  have HC1 := Lib.hid (HJR.out _ _ _ HJP.out).2.2
  have d1 : wr.cell? ⟨b1, 0, none⟩ = some (.slice a N cap) := by simp [World.cell?, HC1.out]
  have d2 : wr.cell? ⟨b2, 0, none⟩ = some (.string cur) := by simp [World.cell?, HC2.out]
  have d3 : wr.frozen? ⟨b2, 0, none⟩ = false := by simp [World.frozen?, HC2.out]
  by_cases hmN : m < N + 1
  ·have HRW : Hid (∃ d, RClasses d wr (· < wr.heap.size) (.slice a N cap) cs) := let ⟨d, h⟩ := rc_classes (w := wr) (I := I) (HJR.out _ _ _ HJP.out).1 (v := .slice a N cap) (l := cs); ⟨d, h (HJR.out _ _ _ HJP.out).2.1⟩
   obtain ⟨d', HRW⟩ := HRW
   have HRW := Lib.hid HRW
   gi_wp2_with fail
   refine ⟨trivial, (callsIn_wide.2 (indexNamed d' (.slice a N cap) cs cur b2 wr HRW.out d2)).mono ?_⟩
   rintro e w2 ⟨rfl, hb⟩
   have hl1 : b1 < wr.heap.size := (Array.getElem?_eq_some_iff.1 HC1.out).1
   have hl2 : b2 < wr.heap.size := (Array.getElem?_eq_some_iff.1 HC2.out).1
   have HD1 : Hid (w2.heap[b1]? = some (.cells #[.slice a N cap, mv] 25)) := (hb.block b1 hl1).trans HC1.out
   have HD2 : Hid (w2.heap[b2]? = some (.cells #[.string cur] 9)) := (hb.block b2 hl2).trans HC2.out
   have HJ2 : Hid (J m I w2) := HJ.out m I wr w2 none HJP.out ⟨hb.os, hb.tape, hb.output, hb.size, fun k hk _ => hb.block k hk⟩ (fun r e => by cases e)
   have e1 : w2.cell? ⟨b1, 0, none⟩ = some (.slice a N cap) := by simp [World.cell?, HD1.out]
   have e2 : w2.cell? ⟨b2, 0, none⟩ = some (.string cur) := by simp [World.cell?, HD2.out]
   have hk : N + 1 - m = (N - m) + 1 := by omega
   rw [hk] at HPX
   clear d1 d2 d3 hb HC1 HC2 HJP HRW hk
   by_cases hi : 0 ≤ idxB (namedB cur) cs
   ·obtain ⟨c, hc, hnm⟩ := idxB_spec _ _ hi
    obtain ⟨j, hj⟩ : ∃ j : Nat, idxB (namedB cur) cs = j := ⟨(idxB (namedB cur) cs).toNat, by omega⟩
    have hfj : findJ cs cur = some j := by unfold findJ; rw [if_pos hi, hj]; simp
    rw [hj, Int.toNat_natCast] at hc
    have hjN : j < N := by rw [← HN.out]; exact (List.getElem?_eq_some_iff.1 hc).1
    have hsup : superOf cs j = c.super := by unfold superOf; rw [hc]; rfl
    obtain ⟨a', off, fv, mv', ea, HRCS, hcl⟩ := class_cells (HJR.out _ _ _ HJ2.out).2.1 hc
    have HEA := Lib.hid ea
    have HRCS := Lib.hid HRCS
    subst ea
    have HX : Hid ((upX cs (cs.length + 1) 0 name)[m]? = some (m, j) ∧ ∃ pre : List (Nat × Nat), pre.length = m + 1 ∧ upX cs (cs.length + 1) 0 name = pre ++ upX cs (N + 1 - (m + 1)) (m + 1) c.super) := by
     show _ ∧ _
     obtain ⟨pre, hp1, hp2⟩ := HPX.out
     have e3 : N + 1 - (m + 1) = N - m := by omega
     rw [hp2, e3]
     conv => lhs; rw [upX]
     conv => rhs; rw [upX]
     rw [hfj]
     subst hp1
     refine ⟨by simp, pre ++ [(pre.length, j)], by simp, by simp [hsup]⟩
    obtain ⟨fn, tmps, assign, body, hy, hR⟩ := HY.out m I w2 j c _ HJ2.out HX.out.1 hc HRCS.out
    obtain ⟨f0, f1, f2, f3, -⟩ := hcl
    rw [hj]
    have HCJ := Lib.hid hc
    clear hnm hi hfj hsup
    gi_wp2
    refine hR.mono ?_
    rintro e W3 (⟨rfl, ⟨I3, hJ3⟩, hk3⟩ | ⟨rfl, hJx3⟩)
    ·obtain ⟨a3, off3, fv3, mv3, ea3, -, hcl3⟩ := class_cells (HJR.out _ _ _ hJ3).2.1 HCJ.out
     simp only [Option.some.injEq, Addr.mk.injEq, and_true] at ea3
     obtain ⟨rfl, rfl⟩ := ea3
     have HE1 := Lib.hid (HJR.out _ _ _ hJ3).2.2
     have HE2 : Hid (W3.heap[b2]? = some (.cells #[.string cur] 9)) := hk3.trans HD2.out
     have g1 : W3.cell? ⟨b1, 0, none⟩ = some (.slice (some ⟨a', off, none⟩) N cap) := by simp [World.cell?, HE1.out]
     have g2 : W3.cell? ⟨b2, 0, none⟩ = some (.string cur) := by simp [World.cell?, HE2.out]
     have g3 : W3.frozen? ⟨b2, 0, none⟩ = false := by simp [World.frozen?, HE2.out]
     have g4 := hcl3.2.1
     have HJ3 : Hid (J (m + 1) I3 (W3.setCell ⟨b2, 0, none⟩ (.string c.super))) := HJ.out _ _ W3 _ (some b2) hJ3 ⟨rfl, rfl, rfl, by show _ ≤ (W3.heap.modify _ _).size; rw [Array.size_modify]; exact Nat.le_refl _, fun q _ hne => Below.heap_setCell W3 _ _ q (fun e => hne (by rw [e]))⟩ (fun r e => by cases e; rfl)
     have HF2 : Hid ((W3.setCell ⟨b2, 0, none⟩ (.string c.super)).heap[b2]? = some (.cells #[.string c.super] 9)) := by
      show (W3.heap.modify b2 _)[b2]? = _
      rw [Array.getElem?_modify, if_pos rfl, HE2.out]; rfl
     clear hk3 hJ3 HE1 HE2 hcl3
     gi_wp2
     go_roundw
     case rel => exact ⟨m + 1, I3, c.super, by omega, by go_num, HX.out.2, HJ3, HF2⟩
     case measure => simp [intOf]; omega
    ·gi_wp2
     refine bodyPost_ret (results_none rfl _ _ _) rfl ?_
     exact ⟨⟨_, rfl⟩, .inr hJx3⟩
   ·have hi2 : idxB (namedB cur) cs < 0 := by omega
    have HX : Hid ((upX cs (cs.length + 1) 0 name).length = m) := by
     show _ = _
     obtain ⟨pre, hp1, hp2⟩ := HPX.out
     rw [hp2]
     conv => lhs; rw [upX]
     unfold findJ
     rw [if_neg hi]; simp [hp1]
    generalize idxB (namedB cur) cs = i at *
    clear hi
    gi_wp2
    refine ⟨fun _ h => (by cases h), ?_⟩
    gi_wp2
    refine bodyPost_ret (results_none rfl _ _ _) rfl ?_
    exact ⟨⟨_, rfl⟩, .inl ⟨I, by rw [HX.out]; exact HJ2.out⟩⟩
  ·obtain rfl : m = N + 1 := by omega
   have HX : Hid ((upX cs (cs.length + 1) 0 name).length = N + 1) := by
    show _ = _
    obtain ⟨pre, hp1, hp2⟩ := HPX.out
    have e3 : N + 1 - (N + 1) = 0 := by omega
    rw [hp2, e3, upX, List.append_nil, hp1]
   gi_wp2
   go_end0
   exact ⟨⟨_, rfl⟩, .inl ⟨I, by rw [HX.out]; exact HJP.out⟩⟩
end V
end Go.Proofs.YthhpcjoaogmhbaaGreatDoor
end
section
namespace Go.Proofs.YthhpcjoaogmhbaaGreatDoor
namespace V
open Go.RowKit
section
variable {w0 w w' : World} {I0 I : Nat → Nat → Prop} {B : Nat → Value} {m : Mem}
theorem MR.holeGrow (h : MR w0 I0 B I m w) {id b : Nat} (hid : m id = some .hole) (hB : B id = .pointer (some ⟨b, 0, none⟩)) (h1 : w'.os = w.os) (h2 : w'.tape = w.tape) (h3 : w'.output = w.output) (hsize : w.heap.size ≤ w'.heap.size) (hk : ∀ k, k < w.heap.size → k ≠ b → w'.heap[k]? = w.heap[k]?) :
 MR w0 I0 B I m w' ∧ Ext w w' I I := by
 have hf : foot B id .hole b := ⟨0, hB⟩
 obtain ⟨b', e1, hI⟩ := h.objs id _ hid
 rw [hB] at e1; cases e1
 have hl := h.low id _ hid b hf
 have hE : Ext w w' I I := ⟨fun _ _ k => k, fun c o ho => World.cell?_of_block (w := w) (hk c (h.there c o ho) (fun e => by subst e; exact hI o ho))⟩
 refine ⟨⟨h.below.trans ⟨h1, h2, h3, hsize, fun k hk' => hk k (Nat.lt_of_lt_of_le hk' h.below.size) (by omega)⟩, h.glob, h.base, h.old, fun c o ho => Nat.lt_of_lt_of_le (h.there c o ho) hsize, fun j o ho => ?_, fun j o ho k hk' => ?_, h.apart, h.live⟩, hE⟩
 ·by_cases e : j = id
  ·subst e
   rw [hid] at ho; cases ho
   exact ⟨b, hB, hI⟩
  ·exact RO.mono hE rfl (fun _ _ => rfl) (fun k hk' => hk k (h.low j o ho k hk').2 (fun e' => by subst e'; exact h.apart j o id _ ho hid e k hk' hf)) (fun _ _ _ hp => hp) (h.objs j o ho)
 ·have := h.low j o ho k hk'; omega
theorem MR.sub (h : MR w0 I0 B I m w) {m' : Mem} (hs : ∀ j o, m' j = some o → m j = some o) (hw : WFm m') : MR w0 I0 B I m' w :=
 ⟨h.below, h.glob, h.base, h.old, h.there, fun id o ho => h.objs id o (hs _ _ ho), fun id o ho => h.low id o (hs _ _ ho), fun id o id' o' ho ho' => h.apart id o id' o' (hs _ _ ho) (hs _ _ ho'), hw⟩
end
def fullM (m : Mem) (i1 i2 iD iL : Nat) (x1 x2 xL : Obj) : Mem := upd (upd (upd (upd m i1 (some (.raw x1))) i2 (some (.raw x2))) iD (some (.raw (.deferred (some []))))) iL (some (.raw xL))
def fullH (m : Mem) (i1 i2 iD iL : Nat) (x1 xL : Obj) : Mem := upd (upd (upd (upd m i1 (some (.raw x1))) i2 (some .hole)) iD (some (.raw (.deferred (some []))))) iL (some (.raw xL))
def doneS (s : Nat → A) (b iD : Nat) : Nat → A := upd (upd s DID (.defs [{ target := .collected b, args := #[] }])) (DID + 1) (.pinP (.pointer (some ⟨b, 0, none⟩)) iD 0)
def doneM (m : Mem) (iD : Nat) : Mem := upd m iD (some (.raw (.deferred (some []))))
def keepR (kp : Nat → Prop) (s0 : Nat → A) (i1 i2 iD iL : Nat) : Nat → Prop := fun j => kp j ∨ (∃ t, j ∈ (s0 t).ids) ∨ j = i1 ∨ j = i2 ∨ j = iD ∨ j = iL
structure GoodM (kp : Nat → Prop) (s0 : Nat → A) (i1 i2 iD iL : Nat) (m : Mem) : Prop where
 wf : WFm m
 i1 : m i1 = none
 i2 : m i2 = none
 iD : m iD = none
 iL : m iL = none
 ids : ∀ t, ∀ j ∈ (s0 t).ids, (m j).isSome = true
 kept : ∀ j, kp j → (m j).isSome = true
theorem upd_updR {α : Type} (f : Nat → α) (i : Nat) (x y : α) : upd (upd f i x) i y = upd f i y := by
 funext t; unfold upd; split <;> rfl
def RoundK (kp : Nat → Prop) (K : Exit → St → Prop) (Inv : Nat → Prop) (s0 : Nat → A) (M : Nat → Mem) (i1 i2 iD iL k : Nat) (x1 x2 xL : Obj) : Exit → St → Prop
 | .normal, st => Inv (k + 1) ∧ ∃ τ, LeT τ (keepR kp s0 i1 i2 iD iL) st ⟨fun _ => .top, fullM (M (k + 1)) i1 i2 iD iL x1 x2 xL⟩
 | .ret, st => ∃ τ m2, LeT τ (keepR kp s0 i1 i2 iD iL) st ⟨fun _ => .top, fullM m2 i1 i2 iD iL x1 x2 xL⟩ ∧ GoodM kp s0 i1 i2 iD iL m2 ∧ ∀ b, K .ret ⟨doneS s0 b iD, doneM m2 iD⟩
 | .exit id, st => ∃ τ m2, LeT τ (keepR kp s0 i1 i2 iD iL) st ⟨fun _ => .top, fullM m2 i1 i2 iD iL x1 x2 xL⟩ ∧ GoodM kp s0 i1 i2 iD iL m2 ∧ ∀ b, K (.exit id) ⟨doneS s0 b iD, doneM m2 iD⟩
 | _, _ => False
section
variable {kp : Nat → Prop} {s0 : Nat → A} {i1 i2 iD iL : Nat} {m : Mem} {x1 x2 xL : Obj}
theorem full_cases {o2 : O} {j : Nat} {o : O} (h : upd (upd (upd (upd m i1 (some (.raw x1))) i2 (some o2)) iD (some (.raw (.deferred (some []))))) iL (some (.raw xL)) j = some o) : (j = iL ∧ o = .raw xL) ∨ (j = iD ∧ j ≠ iL ∧ o = .raw (.deferred (some []))) ∨ (j = i2 ∧ j ≠ iL ∧ j ≠ iD ∧ o = o2) ∨ (j = i1 ∧ j ≠ iL ∧ j ≠ iD ∧ j ≠ i2 ∧ o = .raw x1) ∨ (j ≠ iL ∧ j ≠ iD ∧ j ≠ i2 ∧ j ≠ i1 ∧ m j = some o) := by
 unfold upd at h
 split at h
 ·rename_i e; exact .inl ⟨e, (Option.some.inj h).symm⟩
 ·rename_i e1
  split at h
  ·rename_i e; exact .inr (.inl ⟨e, e1, (Option.some.inj h).symm⟩)
  ·rename_i e2
   split at h
   ·rename_i e; exact .inr (.inr (.inl ⟨e, e1, e2, (Option.some.inj h).symm⟩))
   ·rename_i e3
    split at h
    ·rename_i e; exact .inr (.inr (.inr (.inl ⟨e, e1, e2, e3, (Option.some.inj h).symm⟩)))
    ·rename_i e4; exact .inr (.inr (.inr (.inr ⟨e1, e2, e3, e4, h⟩)))
theorem full_live {o2 : O} {j : Nat} (h : (m j).isSome = true) : (upd (upd (upd (upd m i1 (some (.raw x1))) i2 (some o2)) iD (some (.raw (.deferred (some []))))) iL (some (.raw xL)) j).isSome = true := by
 unfold upd
 split
 ·rfl
 ·split
  ·rfl
  ·split
   ·rfl
   ·split
    ·rfl
    ·exact h
theorem full_wf {o2 : O} (h2 : o2.ids = []) (hw : WFm m) : WFm (upd (upd (upd (upd m i1 (some (.raw x1))) i2 (some o2)) iD (some (.raw (.deferred (some []))))) iL (some (.raw xL))) := fun j o ho i hi => by
 rcases full_cases ho with ⟨-, rfl⟩ | ⟨-, -, rfl⟩ | ⟨-, -, -, rfl⟩ | ⟨-, -, -, -, rfl⟩ | ⟨-, -, -, -, ho⟩
 ·simp [O.ids] at hi
 ·simp [O.ids] at hi
 ·rw [h2] at hi; simp at hi
 ·simp [O.ids] at hi
 ·exact full_live (hw j o ho i hi)
theorem fullH_wf (hw : WFm m) : WFm (fullH m i1 i2 iD iL x1 xL) := full_wf rfl hw
theorem fullM_keep (h : GoodM kp s0 i1 i2 iD iL m) {j : Nat} (hj : keepR kp s0 i1 i2 iD iL j) : (fullM m i1 i2 iD iL x1 x2 xL j).isSome = true := by
 rcases hj with hj | ⟨t, hj⟩ | hj
 ·exact full_live (h.kept j hj)
 ·exact full_live (h.ids t j hj)
 ·unfold fullM upd
  split
  ·rfl
  ·split
   ·rfl
   ·split
    ·rfl
    ·split
     ·rfl
     ·omega
theorem fullM_L (y : Obj) : upd (fullM m i1 i2 iD iL x1 x2 xL) iL (some (.raw y)) = fullM m i1 i2 iD iL x1 x2 y := upd_updR _ _ _ _
theorem fullH_L (y : Obj) : upd (fullH m i1 i2 iD iL x1 xL) iL (some (.raw y)) = fullH m i1 i2 iD iL x1 y := upd_updR _ _ _ _
theorem full_2 (h2D : i2 ≠ iD) (h2L : i2 ≠ iL) (o o' : O) : upd (upd (upd (upd (upd m i1 (some (.raw x1))) i2 (some o)) iD (some (.raw (.deferred (some []))))) iL (some (.raw xL))) i2 (some o') = upd (upd (upd (upd m i1 (some (.raw x1))) i2 (some o')) iD (some (.raw (.deferred (some []))))) iL (some (.raw xL)) := by
 funext t
 unfold upd
 by_cases h1 : t = i2 <;> by_cases h2 : t = iL <;> by_cases h3 : t = iD <;> simp [h1, h2, h3]
 ·exact absurd (h1.symm.trans h2) h2L
 ·exact absurd (h1.symm.trans h2) h2L
 ·exact absurd (h1.symm.trans h3) h2D
 all_goals (try subst h1) <;> simp_all
end
theorem SR.putRaw {R : Ref} {n : Nat} {ds : List Deferred} {st : St} {a : Act} {w : World} (h : SR R n ds st a w) {id b : Nat} {x : Obj} (hid : st.m id = some (.raw x)) (hk : R.keep id) (hB : R.B id = .pointer (some ⟨b, 0, none⟩)) (y : Obj) :
 w.heap[b]? = some x ∧ SR R n ds ⟨st.s, upd st.m id (some (.raw y))⟩ a (w.putObj b y) := by
 obtain ⟨⟨B, I, hm, hx0, hkp, hs⟩, hids, hsz, hnn, hdf, hkept⟩ := h
 have hB' : B id = .pointer (some ⟨b, 0, none⟩) := (hkp id hk).trans hB
 obtain ⟨hm', hE⟩ := hm.putRaw hid hB' y
 have liv : ∀ i, (st.m i).isSome = true → (upd st.m id (some (.raw y)) i).isSome = true := fun i hi => by
  unfold upd; split
  ·rfl
  ·exact hi
 obtain ⟨b', e1, hx, -⟩ := hm.objs id _ hid
 rw [hB'] at e1; cases e1
 exact ⟨hx, ⟨B, I, hm', hx0.trans hE, hkp, fun t => (hs t).mono hE fun _ _ => rfl⟩, fun t j hj => liv j (hids t j hj), hsz, hnn, hdf, fun j hj => liv j (hkept j hj)⟩
set_option maxHeartbeats 1000000 in
theorem W.rangeUp {R : Ref} {n : Nat} {ds : List Deferred} {st : St} {K : Exit → St → Prop} {g : Operand} {assign body : Code} {p0 p1 : Tmp}
 (cs : List Class) (name : ByteArray) (mn : C) (i1 i2 iD iL : Nat) (s0 : Nat → A) (M : Nat → Mem) (Inv : Nat → Prop) (hlen : cs.length ≤ 1000000000)
 (hg : ev st.s g = .fn 92 [i1, i2]) (h1 : st.m i1 = some (.box 25 [.c (.sl (cs.map cClass)), .c mn])) (h2 : st.m i2 = some (.box 9 [.c (.str name)]))
 (hne : [i1, i2, iD, iL].Nodup) (hD : st.m iD = none) (hL : st.m iL = none) (hpn : p0 < n ∧ p1 < n ∧ p0 ≠ p1) (hI0 : Inv 0) (hdd : dfs (st.s DID) = [])
 (hs0 : SLe st.s s0) (hsn : ∀ t, n ≤ t → s0 t = .top) (hM0 : ∀ j o, M 0 j = some o → st.m j = some o)
 (hM : ∀ k, k ≤ (upX cs (cs.length + 1) 0 name).length → GoodM R.keep s0 i1 i2 iD iL (M k))
 (hround : ∀ (R' : Ref) (l : Nat), R'.keep = keepR R.keep s0 i1 i2 iD iL → ∀ (k j : Nat) (c : Class) (x1 x2 xL : Obj), Inv k → (upX cs (cs.length + 1) 0 name)[k]? = some (k, j) → cs[j]? = some c →
   WI l 3 Tryz.prog R' n [] ⟨upd (upd s0 p0 (.c (.int .i64 (k : Int)))) p1 (.agg (cClass c)), fullM (M k) i1 i2 iD iL x1 x2 xL⟩ assign
    (thenK (fun st1 => st1.m iL = some (.raw xL) ∧ ∀ xL', WI l 3 Tryz.prog R' n [] ⟨st1.s, upd st1.m iL (some (.raw xL'))⟩ body (RoundK R.keep K Inv s0 M i1 i2 iD iL k x1 x2 xL')) (fun _ _ => False)))
 (hdone : Inv (upX cs (cs.length + 1) 0 name).length → ∀ b, K .normal ⟨doneS s0 b iD, doneM (M (upX cs (cs.length + 1) 0 name).length) iD⟩) :
 W Tryz.prog R n ds st (.rangeFunc g #[p0, p1] assign body) K := by
 intro a w hr
 obtain ⟨⟨B, I, hm, hx0, hkp, hs⟩, hids, hsz, hnn, hdf, hkept⟩ := hr
 simp only [List.nodup_cons, List.mem_cons, List.not_mem_nil, or_false, not_or, List.nodup_nil, and_true, not_false_eq_true] at hne
 obtain ⟨⟨n12, n1D, n1L⟩, ⟨n2D, n2L⟩, nDL⟩ := hne
 obtain ⟨b1, us1, hB1, hh1, hv1, hI1⟩ := hm.objs i1 _ h1
 obtain ⟨b2, us2, hB2, hh2, hv2, hI2⟩ := hm.objs i2 _ h2
 have hb12 : b1 ≠ b2 := fun e => hm.apart i1 _ i2 _ h1 h2 n12 b1 ⟨0, hB1⟩ ⟨0, e ▸ hB2⟩
 -- the two boxes' cells
 obtain ⟨cv, mv, rfl⟩ : ∃ cv mv, us1 = [cv, mv] := by
  have := hv1.length
  match us1, this with | [x, y], _ => exact ⟨x, y, rfl⟩
 obtain ⟨nv, rfl⟩ : ∃ nv, us2 = [nv] := by
  have := hv2.length
  match us2, this with | [x], _ => exact ⟨x, rfl⟩
 obtain rfl : nv = .string name := (RC.toStr hv2.1.1).1
 have hcv : RC w I cv (.sl (cs.map cClass)) := hv1.1.1
 have hfv : a.eval g = .func (.func 92) #[] #[.pointer (some ⟨b1, 0, none⟩), .pointer (some ⟨b2, 0, none⟩)] := by
  have := ev_rv hs g
  rw [hg] at this
  have h := show a.eval g = .func (.func 92) #[] (([i1, i2].map B).toArray) from this
  rw [h]; simp [hB1, hB2]
 have had : a.defers = ds := by rw [hdf, show dfs (st.s DID) = [] from hdd]; rfl
 refine (wpIn_wide (n := 5)).1 (wpIn_rangeFunc fun fn hfn => ?_)
 -- the loop's book-keeping
 generalize hrec : (fun s pe => loopRec fn a.tmps #[p0, p1] assign body w.heap.size s pe) = rec'
 have recL : ∀ s pe, rec' s pe = loopRec fn a.tmps #[p0, p1] assign body w.heap.size s pe := fun s pe => by rw [← hrec]
 generalize hws : (w.alloc (.deferred (some []))).alloc (rec' .ready none) = ws
 have size0 : (w.alloc (.deferred (some []))).heap.size = w.heap.size + 1 := World.size_alloc _ _
 generalize hBsd : upd (upd B iD (.pointer (some ⟨w.heap.size, 0, none⟩))) iL (.pointer (some ⟨w.heap.size + 1, 0, none⟩)) = Bs
 have hm1 := hm.newRaw hD (.deferred (some []))
 have hb1 : Below w.heap.size w (w.alloc (.deferred (some []))) := (Below.refl _ _).alloc (Nat.le_refl _) _
 have hL' : upd st.m iD (some (O.raw (.deferred (some [])))) iL = none := by rw [upd_ne _ _ (Ne.symm nDL)]; exact hL
 have hm2 := hm1.newRaw hL' (rec' .ready none)
 rw [size0, hBsd, hws] at hm2
 have hb2 : Below w.heap.size w ws := by rw [← hws]; exact hb1.alloc (by rw [size0]; omega) _
 have hE2 : Ext w ws I I := hm.ext hb2 (fun _ _ k => k)
 have hBs : ∀ j, (st.m j).isSome = true → Bs j = B j := fun j hj => by
  rw [← hBsd, upd_ne _ _ (fun e => by subst e; simp [hL] at hj), upd_ne _ _ (fun e => by subst e; simp [hD] at hj)]
 have hB1s : Bs i1 = .pointer (some ⟨b1, 0, none⟩) := (hBs i1 (by simp [h1])).trans hB1
 have hB2s : Bs i2 = .pointer (some ⟨b2, 0, none⟩) := (hBs i2 (by simp [h2])).trans hB2
 have hBDs : Bs iD = .pointer (some ⟨w.heap.size, 0, none⟩) := by rw [← hBsd, upd_ne _ _ nDL, upd_same]
 have hBLs : Bs iL = .pointer (some ⟨w.heap.size + 1, 0, none⟩) := by rw [← hBsd, upd_same]
 have hl1 : b1 < w.heap.size := (Array.getElem?_eq_some_iff.1 hh1).1
 have hl2 : b2 < w.heap.size := (Array.getElem?_eq_some_iff.1 hh2).1
 -- the frame, as it was at the loop's start
 have hframe : ∀ t, RV Bs ws I (s0 t) (a.tmps.getD t undef) := fun t => by
  rcases hs0 t with e | e
  ·rw [e]; trivial
  ·rw [e]; exact (hs t).mono hE2 fun j hj => hBs j (hids t j hj)
 let x1 : Obj := .cells #[cv, mv] 25
 let kp' := keepR R.keep s0 i1 i2 iD iL
 have keep1 : kp' i1 := .inr (.inr (.inl rfl))
 have keep2 : kp' i2 := .inr (.inr (.inr (.inl rfl)))
 have keepD : kp' iD := .inr (.inr (.inr (.inr (.inl rfl))))
 have keepL : kp' iL := .inr (.inr (.inr (.inr (.inr rfl))))
 let R' : Ref := ⟨R.w0, R.I0, ws, I, Bs, kp'⟩
 let J : Nat → (Nat → Nat → Prop) → World → Prop := fun k I1 W => ∃ B1, MR R.w0 R.I0 B1 I1 (fullH (M k) i1 i2 iD iL x1 (rec' .ready none)) W ∧ Ext ws W I I1 ∧ (∀ j, kp' j → B1 j = Bs j) ∧ k ≤ (upX cs (cs.length + 1) 0 name).length ∧ Inv k
 let Jx : World → Prop := fun W => ∃ c B1 I1 m2, MR R.w0 R.I0 B1 I1 (fullH m2 i1 i2 iD iL x1 (rec' .done (some c))) W ∧ Ext ws W I I1 ∧ (∀ j, kp' j → B1 j = Bs j) ∧ GoodM R.keep s0 i1 i2 iD iL m2 ∧
  ((c = .ret ∧ ∀ b, K .ret ⟨doneS s0 b iD, doneM m2 iD⟩) ∨ ∃ id, c = .exit id ∧ ∀ b, K (.exit id) ⟨doneS s0 b iD, doneM m2 iD⟩)
 have fullL : ∀ (m : Mem) (o2 : O) (x : Obj), upd (upd (upd (upd m i1 (some (.raw x1))) i2 (some o2)) iD (some (.raw (.deferred (some []))))) iL (some (.raw x)) iL = some (.raw x) := fun _ _ _ => upd_same _ _ _
 have full2 : ∀ (m : Mem) (o2 : O) (x : Obj), upd (upd (upd (upd m i1 (some (.raw x1))) i2 (some o2)) iD (some (.raw (.deferred (some []))))) iL (some (.raw x)) i2 = some o2 := fun _ _ _ => by rw [upd_ne _ _ n2L, upd_ne _ _ n2D, upd_same]
 have full1 : ∀ (m : Mem) (o2 : O) (x : Obj), upd (upd (upd (upd m i1 (some (.raw x1))) i2 (some o2)) iD (some (.raw (.deferred (some []))))) iL (some (.raw x)) i1 = some (.raw x1) := fun _ _ _ => by rw [upd_ne _ _ n1L, upd_ne _ _ n1D, upd_ne _ _ n12, upd_same]
 -- behind the loop
 have finish : ∀ {W : World} {B1 : Nat → Value} {I1 : Nat → Nat → Prop} {m2 : Mem} {y : Obj}, MR R.w0 R.I0 B1 I1 (fullH m2 i1 i2 iD iL x1 y) W → Ext ws W I I1 → (∀ j, kp' j → B1 j = Bs j) → GoodM R.keep s0 i1 i2 iD iL m2 →
  SR R n ds ⟨doneS s0 w.heap.size iD, doneM m2 iD⟩ { a with defers := { target := .collected w.heap.size, args := #[] } :: a.defers } W := fun {W B1 I1 m2 y} hmW hxW hkW hgd => by
  have liv : ∀ j, (m2 j).isSome = true → (doneM m2 iD j).isSome = true := fun j hj => by
   unfold doneM upd; split
   ·rfl
   ·exact hj
  have hsub : MR R.w0 R.I0 B1 I1 (doneM m2 iD) W := hmW.sub (fun j o ho => by
   unfold doneM upd at ho
   split at ho
   ·rename_i e; subst e; cases ho
    unfold fullH; rw [upd_ne _ _ nDL, upd_same]
   ·rename_i e
    have e1 : j ≠ iL := fun q => by subst q; rw [hgd.iL] at ho; cases ho
    have e2 : j ≠ i2 := fun q => by subst q; rw [hgd.i2] at ho; cases ho
    have e3 : j ≠ i1 := fun q => by subst q; rw [hgd.i1] at ho; cases ho
    unfold fullH; rw [upd_ne _ _ e1, upd_ne _ _ e, upd_ne _ _ e2, upd_ne _ _ e3]; exact ho) (fun j o ho i hi => by
   unfold doneM upd at ho
   split at ho
   ·cases ho; simp [O.ids] at hi
   ·exact liv i (hgd.wf j o ho i hi))
  have sl : ∀ t, t ≠ DID → t ≠ DID + 1 → doneS s0 w.heap.size iD t = s0 t := fun t e1 e2 => by
   unfold doneS; rw [upd_ne _ _ e2, upd_ne _ _ e1]
  refine ⟨⟨B1, I1, hsub, (hx0.trans hE2).trans hxW, fun j hj => ((hkW j (.inl hj)).trans (hBs j (hkept j hj))).trans (hkp j hj), fun t => ?_⟩, fun t j hj => ?_, hsz, hnn, ?_, fun j hj => liv j (hgd.kept j hj)⟩
  ·by_cases e2 : t = DID + 1
   ·subst e2
    show RV B1 W I1 (doneS s0 w.heap.size iD (DID + 1)) _
    unfold doneS; rw [upd_same]
    exact ⟨w.heap.size, (hkW iD keepD).trans hBDs, rfl⟩
   ·by_cases e1 : t = DID
    ·subst e1
     show RV B1 W I1 (doneS s0 w.heap.size iD DID) _
     unfold doneS; rw [upd_ne _ _ (by decide), upd_same]
     trivial
    ·show RV B1 W I1 (doneS s0 w.heap.size iD t) _
     rw [sl t e1 e2]
     exact (hframe t).mono hxW fun j hj => hkW j (.inr (.inl ⟨t, hj⟩))
  ·replace hj : j ∈ (doneS s0 w.heap.size iD t).ids := hj
   by_cases e2 : t = DID + 1
   ·subst e2
    unfold doneS at hj; rw [upd_same] at hj
    simp [A.ids] at hj; subst hj
    show (doneM m2 j j).isSome = true
    unfold doneM; rw [upd_same]; rfl
   ·by_cases e1 : t = DID
    ·subst e1
     unfold doneS at hj; rw [upd_ne _ _ (by decide), upd_same] at hj
     simp [A.ids] at hj
    ·rw [sl t e1 e2] at hj
     exact liv j (hgd.ids t j hj)
  ·show _ :: a.defers = dfs (doneS s0 w.heap.size iD DID) ++ ds
   unfold doneS; rw [upd_ne _ _ (by decide), upd_same, had]; rfl
 have hJ0 : J 0 I ws := by
  have ha : MR R.w0 R.I0 Bs I (upd (upd (upd st.m iD (some (O.raw (.deferred (some []))))) iL (some (.raw (rec' .ready none)))) i2 (some .hole)) ws := hm2.toHole (id := i2) (o := .box 9 [.c (.str name)]) (by rw [upd_ne _ _ n2L, upd_ne _ _ n2D]; exact h2) ⟨b2, hB2s, hI2, fun k => ⟨fun ⟨off, hk⟩ => by rw [hB2s] at hk; cases hk; rfl, fun e => ⟨0, e ▸ hB2s⟩⟩⟩
  have hi1 : upd (upd (upd st.m iD (some (O.raw (.deferred (some []))))) iL (some (.raw (rec' .ready none)))) i2 (some .hole) i1 = some (.box 25 [.c (.sl (cs.map cClass)), .c mn]) := by rw [upd_ne _ _ n12, upd_ne _ _ n1L, upd_ne _ _ n1D]; exact h1
  have hb := ha.toHole hi1 ⟨b1, hB1s, hI1, fun k => ⟨fun ⟨off, hk⟩ => by rw [hB1s] at hk; cases hk; rfl, fun e => ⟨0, e ▸ hB1s⟩⟩⟩
  have hc := hb.ofHole (id := i1) (b := b1) (x := x1) (upd_same _ _ _) hB1s ((hb2.block b1 hl1).trans hh1)
  refine ⟨Bs, hc.sub (fun j o ho => ?_) (fullH_wf (hM 0 (Nat.zero_le _)).wf), Ext.refl _ _, fun _ _ => rfl, Nat.zero_le _, hI0⟩
  rw [upd_updR]
  rcases full_cases ho with ⟨rfl, rfl⟩ | ⟨rfl, e1, rfl⟩ | ⟨rfl, e1, e2, rfl⟩ | ⟨rfl, e1, e2, e3, rfl⟩ | ⟨e1, e2, e3, e4, ho⟩
  ·rw [upd_ne _ _ (Ne.symm n1L), upd_ne _ _ (Ne.symm n2L), upd_same]
  ·rw [upd_ne _ _ (Ne.symm n1D), upd_ne _ _ (Ne.symm n2D), upd_ne _ _ nDL, upd_same]
  ·rw [upd_ne _ _ (Ne.symm n12), upd_same]
  ·rw [upd_same]
  ·rw [upd_ne _ _ e4, upd_ne _ _ e3, upd_ne _ _ e1, upd_ne _ _ e2]; exact hM0 j o ho
 have hJA : AbidesI b2 J := fun k I1 W W' row hj hgr hrow => by
  obtain ⟨B1, q1, q2, q3, q4⟩ := hj
  have hB := (q3 i2 keep2).trans hB2s
  obtain ⟨r1, r2⟩ := q1.holeGrow (full2 _ _ _) hB hgr.os hgr.tape hgr.output hgr.size (fun c hc hcb => hgr.block c hc (fun e => hcb (hrow c e.symm)))
  exact ⟨B1, r1, q2.trans r2, q3, q4⟩
 have hJR : ∀ k I1 W, J k I1 W → (∀ b o, I1 b o → b < W.heap.size) ∧ RC W I1 cv (.sl (cs.map cClass)) ∧ W.heap[b1]? = some (.cells #[cv, mv] 25) := fun k I1 W hj => by
  obtain ⟨B1, q1, q2, q3, q4⟩ := hj
  refine ⟨q1.there, RC.mono q2 (RC.mono hE2 hcv), ?_⟩
  obtain ⟨b, e1, e2, -⟩ := q1.objs i1 _ (full1 _ _ _)
  rw [(q3 i1 keep1).trans hB1s] at e1; cases e1
  exact e2
 refine ⟨w.heap.size + 1, [{ target := .collected w.heap.size, args := #[] }], ws, { target := .fn (.func 92) #[.pointer (some ⟨b1, 0, none⟩), .pointer (some ⟨b2, 0, none⟩)], args := #[.func (.yield (w.heap.size + 1)) #[] #[]] }, ws, 92,
  #[.func (.yield (w.heap.size + 1)) #[] #[], .pointer (some ⟨b1, 0, none⟩), .pointer (some ⟨b2, 0, none⟩)], ws, ?_, by simp only [resolve, hfv]; simp [go_sem, Deferred.ofValue], ?_, ?_, fun _ => by decide, ?_⟩
 ·rw [← hws, recL]; exact run_enterLoop_outer _ _ _ _ _
 ·intro f' hf'
  simp [Target.leads] at hf'
  subst hf'; trivial
 ·have := enters_of Tryz.func92 (by kernel_rfl) rfl #[.func (.yield (w.heap.size + 1)) #[] #[], .pointer (some ⟨b1, 0, none⟩), .pointer (some ⟨b2, 0, none⟩)] ws
  simp [invoke, go_sem, this]
 refine (up1_v 4 (by decide) (w.heap.size + 1) b1 b2 cv mv cs name hlen J Jx hJA hb12 hJR ?_ ws I ((hb2.block b2 hl2).trans hh2) hJ0).mono ?_
 ·intro k I1 W j c vs hj hitem hc hvs
  obtain ⟨B1, q1, q2, q3, q4, qI⟩ := hj
  have hk : k < (upX cs (cs.length + 1) 0 name).length := (List.getElem?_eq_some_iff.1 hitem).1
  have hB2W : B1 i2 = .pointer (some ⟨b2, 0, none⟩) := (q3 i2 keep2).trans hB2s
  have hl2W : b2 < W.heap.size := (q1.low i2 _ (full2 _ _ _) b2 ⟨0, hB2W⟩).2
  obtain ⟨x2, hx2⟩ : ∃ x, W.heap[b2]? = some x := ⟨_, Array.getElem?_eq_getElem hl2W⟩
  have q5 : MR R.w0 R.I0 B1 I1 (fullM (M k) i1 i2 iD iL x1 x2 (rec' .ready none)) W := by
   have := q1.ofHole (full2 _ _ _) hB2W hx2
   unfold fullH at this
   rw [full_2 n2D n2L] at this
   exact this
  have hL1 : W.heap[w.heap.size + 1]? = some (rec' .ready none) := by
   obtain ⟨b, e1, e2, -⟩ := q1.objs iL _ (fullL _ _ _)
   rw [(q3 iL keepL).trans hBLs] at e1; cases e1
   exact e2
  have hL2 := hL1
  rw [recL] at hL2
  have hgk := hM k q4
  have hfold : (((#[p0, p1] : Array Tmp).zip (#[.int .i64 (k : Int), .agg vs.toArray] : Array Value)).foldl (fun tmps (p : Tmp × Value) => tmps.setIfInBounds p.1 p.2) a.tmps) = (a.tmps.setIfInBounds p0 (.int .i64 (k : Int))).setIfInBounds p1 (.agg vs.toArray) := by simp
  have htm : ∀ t, ((((#[p0, p1] : Array Tmp).zip (#[.int .i64 (k : Int), .agg vs.toArray] : Array Value)).foldl (fun tmps (p : Tmp × Value) => tmps.setIfInBounds p.1 p.2) a.tmps).getD t undef) = if t = p1 then .agg vs.toArray else if t = p0 then .int .i64 (k : Int) else a.tmps.getD t undef := fun t => by
   rw [hfold, Array.getD_eq_getD_getElem?, Array.getElem?_setIfInBounds]
   by_cases e1 : p1 = t
   ·subst e1
    rw [if_pos rfl, if_pos (by simp; rw [hsz]; exact hpn.2.1), if_pos rfl]; rfl
   ·rw [if_neg e1, if_neg (Ne.symm e1), Array.getElem?_setIfInBounds]
    by_cases e0 : p0 = t
    ·subst e0
     rw [if_pos rfl, if_pos (by rw [hsz]; exact hpn.1), if_pos rfl]; rfl
    ·rw [if_neg e0, if_neg (Ne.symm e0), Array.getD_eq_getD_getElem?]
  have hwf : (Lit.int .i64 (k : Int)).wf = true := by
   have := upX_len cs (cs.length + 1) 0 name
   exact wf_i64 (by omega) (by omega)
  have hsr : SR R' n [] ⟨upd (upd s0 p0 (.c (.int .i64 (k : Int)))) p1 (.agg (cClass c)), fullM (M k) i1 i2 iD iL x1 x2 (rec' .ready none)⟩ { tmps := ((#[p0, p1] : Array Tmp).zip (#[.int .i64 (k : Int), .agg vs.toArray] : Array Value)).foldl (fun tmps (p : Tmp × Value) => tmps.setIfInBounds p.1 p.2) a.tmps, defers := [] } W := by
   refine ⟨⟨B1, I1, q5, q2, q3, fun t => ?_⟩, fun t q hq => ?_, ?_, hnn, ?_, fun q hq => fullM_keep hgk hq⟩
   ·rw [htm]
    show RV B1 W I1 (upd (upd s0 p0 (.c (.int .i64 (k : Int)))) p1 (.agg (cClass c)) t) _
    by_cases e1 : t = p1
    ·subst e1; rw [upd_same, if_pos rfl]; exact ⟨vs, rfl, hvs⟩
    ·rw [upd_ne _ _ e1, if_neg e1]
     by_cases e0 : t = p0
     ·subst e0; rw [upd_same, if_pos rfl]; exact .int hwf
     ·rw [upd_ne _ _ e0, if_neg e0]
      exact (hframe t).mono q2 fun q hq => q3 q (.inr (.inl ⟨t, hq⟩))
   ·replace hq : q ∈ (upd (upd s0 p0 (A.c (.int .i64 (k : Int)))) p1 (.agg (cClass c)) t).ids := hq
    by_cases e1 : t = p1
    ·subst e1; rw [upd_same] at hq; simp [A.ids] at hq
    ·rw [upd_ne _ _ e1] at hq
     by_cases e0 : t = p0
     ·subst e0; rw [upd_same] at hq; simp [A.ids] at hq
     ·rw [upd_ne _ _ e0] at hq
      exact full_live (hgk.ids t q hq)
   ·show (((#[p0, p1] : Array Tmp).zip (#[.int .i64 (k : Int), .agg vs.toArray] : Array Value)).foldl (fun tmps (p : Tmp × Value) => tmps.setIfInBounds p.1 p.2) a.tmps).size = n
    rw [hfold]; simp [hsz]
   ·show [] = dfs (upd (upd s0 p0 (A.c (.int .i64 (k : Int)))) p1 (.agg (cClass c)) DID) ++ []
    have hn1 : DID ≠ p1 := fun e => by have h := hpn.2.1; rw [← e] at h; exact absurd h (Nat.not_lt.2 hnn)
    have hn0 : DID ≠ p0 := fun e => by have h := hpn.1; rw [← e] at h; exact absurd h (Nat.not_lt.2 hnn)
    rw [upd_ne _ _ hn1, upd_ne _ _ hn0, hsn DID hnn]; rfl
  refine ⟨fn, _, assign, body, run_yield (P := Tryz.prog) (args := #[.int .i64 (k : Int), .agg vs.toArray]) hL2 rfl, roundIn_of_wpIn hfn (wpIn_mono (hround R' (w.heap.size + 1) rfl k j c x1 x2 (rec' .ready none) qI hitem hc _ W hsr) ?_)⟩
  rintro e a1 W1 ⟨st1, hk1, hsr1⟩
  cases e with
  | normal =>
    obtain ⟨hi1, hbody⟩ := hk1
    obtain ⟨hx1, hsr2⟩ := hsr1.putRaw hi1 keepL hBLs (rec' .busy none)
    rw [recL] at hx1
    refine ⟨_, run_beginRound hx1 rfl, ?_⟩
    have hb := hbody (rec' .busy none) a1 _ hsr2
    rw [recL] at hb
    refine wpIn_mono hb ?_
    rintro e a3 V ⟨st2, hk2, hsr3⟩
    rw [← recL .busy none] at hk2
    -- a round has ended
    have fin : ∀ {τ : Nat → Nat} {m2 : Mem} (s' : LoopState) (pe : Option Code), GoodM R.keep s0 i1 i2 iD iL m2 → LeT τ kp' st2 ⟨fun _ => .top, fullM m2 i1 i2 iD iL x1 x2 (rec' .busy none)⟩ → V.heap[w.heap.size + 1]? = some (rec' .busy none) ∧
     ∃ B3 I3, MR R.w0 R.I0 B3 I3 (fullH m2 i1 i2 iD iL x1 (rec' s' pe)) (V.putObj (w.heap.size + 1) (rec' s' pe)) ∧ Ext ws (V.putObj (w.heap.size + 1) (rec' s' pe)) I I3 ∧ (∀ j, kp' j → B3 j = Bs j) ∧ (V.putObj (w.heap.size + 1) (rec' s' pe)).heap[b2]? = W.heap[b2]? := fun {τ m2} s' pe hgd hle => by
     have h5 := hsr3.leT (R := R') hle
     obtain ⟨h6, h7⟩ := h5.putRaw (fullL _ _ _) keepL hBLs (rec' s' pe)
     rw [show (⟨fun _ => .top, fullM m2 i1 i2 iD iL x1 x2 (rec' .busy none)⟩ : St).m = fullM m2 i1 i2 iD iL x1 x2 (rec' .busy none) from rfl, fullM_L] at h7
     obtain ⟨⟨B3, I3, r1, r2, r3, -⟩, -⟩ := h7
     have hB3 : B3 i2 = .pointer (some ⟨b2, 0, none⟩) := (r3 i2 keep2).trans hB2s
     obtain ⟨b, e1, e2, e3⟩ := r1.objs i2 _ (full2 _ _ _)
     rw [hB3] at e1; cases e1
     refine ⟨h6, B3, I3, ?_, r2, r3, e2.trans hx2.symm⟩
     have := r1.toHole (id := i2) (o := .raw x2) (full2 _ _ _) ⟨b2, hB3, e3, fun k => ⟨fun ⟨off, hk⟩ => by rw [hB3] at hk; cases hk; rfl, fun e => ⟨0, e ▸ hB3⟩⟩⟩
     unfold fullM at this
     rw [full_2 n2D n2L] at this
     exact this
    match e, hk2 with
    | .normal, ⟨hIn, τ, hle⟩ =>
      obtain ⟨h6, B3, I3, r1, r2, r3, r4⟩ := fin .ready none (hM (k + 1) hk) hle
      rw [recL] at h6
      refine ⟨_, _, run_endRound (P := Tryz.prog) none h6, .inl ⟨rfl, ⟨I3, B3, ?_, ?_, r3, hk, hIn⟩, ?_⟩⟩
      ·rw [recL] at r1 ⊢; exact r1
      ·rw [recL] at r2; exact r2
      ·rw [recL] at r4; exact r4
    | .ret, ⟨τ, m2, hle, hgd, hK⟩ =>
      obtain ⟨h6, B3, I3, r1, r2, r3, r4⟩ := fin .done (some .ret) hgd hle
      rw [recL] at h6
      refine ⟨_, _, run_endRound (P := Tryz.prog) (some .ret) h6, .inr ⟨rfl, .ret, B3, I3, m2, ?_, ?_, r3, hgd, .inl ⟨rfl, hK⟩⟩⟩
      ·rw [recL] at r1 ⊢; exact r1
      ·rw [recL] at r2; exact r2
    | .exit id, ⟨τ, m2, hle, hgd, hK⟩ =>
      obtain ⟨h6, B3, I3, r1, r2, r3, r4⟩ := fin .done (some (.exit id)) hgd hle
      rw [recL] at h6
      refine ⟨_, _, run_endRound (P := Tryz.prog) (some (.exit id)) h6, .inr ⟨rfl, .exit id, B3, I3, m2, ?_, ?_, r3, hgd, .inr ⟨id, rfl, hK⟩⟩⟩
      ·rw [recL] at r1 ⊢; exact r1
      ·rw [recL] at r2; exact r2
  | _ => exact hk1.elim
 ·-- the loop has ended
  have over : ∀ {W : World} {B1 : Nat → Value} {I1 : Nat → Nat → Prop} {m2 : Mem} {s' : LoopState} {pe : Option Code} (y : Obj), MR R.w0 R.I0 B1 I1 (fullH m2 i1 i2 iD iL x1 (rec' s' pe)) W → Ext ws W I I1 → (∀ j, kp' j → B1 j = Bs j) → GoodM R.keep s0 i1 i2 iD iL m2 →
   W.heap[w.heap.size + 1]? = some (rec' s' pe) ∧ SR R n ds ⟨doneS s0 w.heap.size iD, doneM m2 iD⟩ { a with defers := { target := .collected w.heap.size, args := #[] } :: a.defers } (W.putObj (w.heap.size + 1) y) := fun {W B1 I1 m2 s' pe} y r1 r2 r3 hgd => by
   have hBL := (r3 iL keepL).trans hBLs
   obtain ⟨b, e1, e2, -⟩ := r1.objs iL _ (fullL _ _ _)
   rw [hBL] at e1; cases e1
   obtain ⟨r4, r5⟩ := r1.putRaw (fullL _ _ _) hBL y
   rw [fullH_L] at r4
   exact ⟨e2, finish r4 (r2.trans r5) r3 hgd⟩
  rintro e V ⟨⟨v, rfl⟩, (⟨I1, B1, r1, r2, r3, r4, rI⟩ | ⟨c, B1, I1, m2, r1, r2, r3, hgd, hc⟩)⟩
  ·obtain ⟨h6, h7⟩ := over (loopRec fn a.tmps #[p0, p1] assign body w.heap.size .exhausted none) r1 r2 r3 (hM _ (Nat.le_refl _))
   rw [recL] at h6
   exact ⟨none, _, run_endLoop (P := Tryz.prog) h6 (by simp), ⟨_, hdone rI _, h7⟩⟩
  ·obtain ⟨h6, h7⟩ := over (loopRec fn a.tmps #[p0, p1] assign body w.heap.size .exhausted (some c)) r1 r2 r3 hgd
   rw [recL] at h6
   refine ⟨some c, _, run_endLoop (P := Tryz.prog) h6 (by simp), ?_⟩
   rcases hc with ⟨rfl, hK⟩ | ⟨id, rfl, hK⟩
   ·exact wpIn_ret ⟨_, hK _, h7⟩
   ·exact wpIn_exit ⟨_, hK _, h7⟩
theorem A1.ren_id (a : A1) : a.ren (fun j => j) = a := by cases a <;> rfl
theorem A.ren_id (a : A) : a.ren (fun j => j) = a := by
 have h1 : ∀ l : List A1, l.map (A1.ren fun j => j) = l := fun l => by
  rw [show (A1.ren fun j => j) = (fun a => a) from funext A1.ren_id]; simp
 cases a <;> simp [A.ren, h1]
theorem O.ren_id (o : O) : o.ren (fun j => j) = o := by
 cases o with
 | box ty cells => simp only [O.ren]; rw [show (A.ren fun j => j) = (fun a => a) from funext A.ren_id]; simp
 | rows ty xs => simp only [O.ren]; rw [show (A1.ren fun j => j) = (fun a => a) from funext A1.ren_id]; simp
 | map ents => simp only [O.ren]; simp [A1.ren_id]
 | _ => rfl
theorem Le.toT {kp : Nat → Prop} {st st' : St} (h : Le kp st st') : LeT (fun j => j) kp st st' := by
 refine ⟨fun t => ?_, fun j o ho => ?_, fun i j _ _ e => e, h.wf, fun j hj => ⟨rfl, h.kept j hj⟩, h.dd⟩
 ·rw [A.ren_id]; exact h.s t
 ·rw [O.ren_id]
  rcases h.m j with e | e
  ·rw [e] at ho; cases ho
  ·rw [← e]; exact ho
theorem ok_pureM {P : Go.Program} {T : Tab} (hT : T.Ok P) {f : FuncId} {fn : Func} {c : Code} {l : List ResultVar} {args : List A} {r : A} (hf : P.funcs[f]? = some fn) (hn : (fn.name == "runtime.NumGoroutine") = false) (hb : fn.body = some c) (hl : fn.results.toList = l) (hd : args.all (fun a => a.ids.isEmpty && !(match a with | .defs _ => true | _ => false)) = true) (hr : r.ids = []) (hle : decide (args.length ≤ fn.ntmps ∧ fn.ntmps ≤ DID) = true)
 (hW : ∀ R : Ref, R.keep = (fun _ => False) → W P R fn.ntmps [] ⟨entry args, Mem.nil⟩ c (fun e st => (e = .normal ∨ e = .ret) ∧ ((dfs (st.s DID) = [] ∧ resA T st l = some r) ∨
   ∃ b iD, dfs (st.s DID) = [{ target := .collected b, args := #[] }] ∧ st.s (DID + 1) = .pinP (.pointer (some ⟨b, 0, none⟩)) iD 0 ∧ st.m iD = some (.raw (.deferred (some []))) ∧ resA T ⟨st.s, upd st.m iD (some (.raw (.deferred none)))⟩ l = some r))) (m : Mem) : COk P f args m r := by
 refine ⟨enters_of hf hn hb, hr, fun m' _ => ?_⟩
 intro w0 I0 B I w vals hm hv
 have hlen := rvl_len hv
 have hids : ∀ a ∈ args, a.ids = [] := fun a ha => by have := List.all_eq_true.1 hd a ha; simp only [Bool.and_eq_true] at this; simpa using this.1
 have hdf : ∀ a ∈ args, ∀ l, a ≠ .defs l := fun a ha l e => by have := List.all_eq_true.1 hd a ha; subst e; simp at this
 obtain ⟨hle1, hle2⟩ := of_decide_eq_true hle
 refine (callsIn_wide (n := 5)).1 (callsIn_of_wp_marks hf hb trivial ?_ rfl)
 have h0 : SR ⟨w, I, w, I, B, fun _ => False⟩ fn.ntmps [] ⟨entry args, Mem.nil⟩ { tmps := vals.toArray ++ Array.replicate (fn.ntmps - vals.toArray.size) undef, defers := [] } w := by
  refine ⟨⟨B, I, ⟨Below.refl _ _, hm.globNow, fun _ _ h => h, fun _ _ h => .inl h, hm.there, fun _ _ h => absurd h (noneSome _), fun _ _ h => absurd h (noneSome _), fun _ _ _ _ h => absurd h (noneSome _), fun _ _ h => absurd h (noneSome _)⟩, Ext.refl _ _, fun _ _ => rfl, rvl_entry hv⟩, fun t j hj => ?_, by simp [hlen]; omega, hle2, by rw [show dfs ((⟨entry args, Mem.nil⟩ : St).s DID) = [] from entry_dfs hdf]; rfl, fun j hj => hj.elim⟩
  simp only [entry, List.getD_eq_getElem?_getD] at hj
  cases hx : args[t]? with
  | none => rw [hx] at hj; simp [A.ids] at hj
  | some a => rw [hx] at hj; simp [hids a (List.mem_of_getElem? hx)] at hj
 refine wpIn_mono (wpIn_wide.2 (hW _ rfl _ w h0)) ?_
 rintro e a' w' ⟨st', ⟨he, hres⟩, hsr⟩
 have post : LeavesInM Fence.wide 5 P fn a'.tmps (fun e w' => ∃ v I', e = .returned v ∧ Below w.heap.size w w' ∧ (∀ b o, I b o → I' b o) ∧ (∀ b o, I' b o → I b o ∨ (w.heap.size ≤ b ∧ b < w'.heap.size)) ∧ RV B w' I' r v) a'.defers .returning w' := by
  rcases hres with ⟨hdn, hres⟩ | ⟨b, iD, hdn, hpin, hiD, hres⟩
  ·obtain ⟨⟨B', I', hm', hx', -, hs'⟩, -, -, -, hds, -⟩ := hsr
   obtain ⟨v, h1, h2, h3⟩ := resA_snd hT hm' hs' hl hres
   rw [hds, hdn]
   exact ⟨v, h1, v, I', rfl, hm'.below, hm'.base, fun b o h => (hm'.old b o h).imp id fun k => ⟨k, hm'.there b o h⟩, h2.mono (Ext.refl _ _) fun j hj => by rw [h3] at hj; simp at hj⟩
  ·obtain ⟨⟨B', I', hm', hx', -, hs'⟩, -, -, -, hds, -⟩ := hsr
   rw [hds, hdn]
   have hp := hs' (DID + 1)
   rw [hpin] at hp
   obtain ⟨b0, hp1, hp2⟩ := hp
   cases hp2
   obtain ⟨hm2, hE2⟩ := hm'.putRaw hiD hp1 (.deferred none)
   obtain ⟨b1, e1, e2, -⟩ := hm'.objs iD _ hiD
   rw [hp1] at e1; cases e1
   obtain ⟨v, h1, h2, h3⟩ := resA_snd (st := ⟨st'.s, upd st'.m iD (some (.raw (.deferred none)))⟩) hT hm2 (fun t => (hs' t).mono hE2 fun _ _ => rfl) hl hres
   refine ⟨by simp, .inl ⟨_, _, rfl, run_takeDeferred e2, ?_⟩⟩
   exact ⟨v, h1, v, I', rfl, hm2.below, hm2.base, fun b o h => (hm2.old b o h).imp id fun k => ⟨k, hm2.there b o h⟩, h2.mono (Ext.refl _ _) fun j hj => by rw [h3] at hj; simp at hj⟩
 rcases he with rfl | rfl
 ·exact post
 ·exact post
theorem up_ok (xs : List (List C)) (mn : C) (name : ByteArray) (M : Mem) (i1 i2 : Nat) (h1 : M i1 = none) (h2 : M i2 = none) (h12 : i1 ≠ i2) : CallE Tryz.prog 57 [.agg [.sl xs, mn], .c (.str name)] M [] (.fn 92 [i1, i2])
 (upd (upd M i1 (some (.box 25 [.c (.sl xs), .c mn]))) i2 (some (.box 9 [.c (.str name)]))) := by
 have liv : ∀ j, (M j).isSome = true → (upd (upd M i1 (some (.box 25 [.c (.sl xs), .c mn]))) i2 (some (.box 9 [.c (.str name)])) j).isSome = true := fun j hj => by
  unfold upd; split
  ·rfl
  ·split
   ·rfl
   ·exact hj
 refine ⟨enters_of Tryz.func57 (by kernel_rfl) rfl, fun j hj => ?_, liv, fun hw j o ho i hi => ?_, fun w0 I0 B I w vals hm hv => ?_⟩
 ·simp [A.ids] at hj
  rcases hj with rfl | rfl
  ·rw [upd_ne _ _ h12, upd_same]; rfl
  ·rw [upd_same]; rfl
 ·unfold upd at ho
  split at ho
  ·cases ho; simp [O.ids, A.ids] at hi
  ·split at ho
   ·cases ho; simp [O.ids, A.ids] at hi
   ·exact liv i (hw j o ho i hi)
 ·match vals, hv with
  | [v, u], ⟨hp, hn, _⟩ =>
    obtain ⟨us, rfl, hus⟩ := hp
    match us, hus with
    | [cv, mv], ⟨hc, hmn, _⟩ =>
      obtain rfl : u = .string name := (RC.toStr hn).1
      refine (up_any cv mv name w).mono ?_
      rintro e w' ⟨rfl, rfl⟩
      have hb1 : Below w.heap.size w (w.alloc (.cells #[cv, mv] 25)) := (Below.refl _ _).alloc (Nat.le_refl _) _
      have hx1 := hm.box (id := i1) h1 (ty := 25) (cells := [.c (.sl xs), .c mn]) (vs := [cv, mv]) ⟨⟨hc, (RC.one hc).1⟩, ⟨hmn, (RC.one hmn).1⟩, trivial⟩ (fun j hj => by simp [A.ids] at hj)
      have hE1 := hm.ext hb1 (fun _ _ k => k)
      have h2' : upd M i1 (some (O.box 25 [.c (.sl xs), .c mn])) i2 = none := by rw [upd_ne _ _ (Ne.symm h12)]; exact h2
      have hn1 := RC.mono hE1 hn
      have hx2 := hx1.box (id := i2) h2' (ty := 9) (cells := [.c (.str name)]) (vs := [.string name]) ⟨⟨hn1, rfl⟩, trivial⟩ (fun j hj => by simp [A.ids] at hj)
      have hb2 : Below (w.alloc (.cells #[cv, mv] 25)).heap.size (w.alloc (.cells #[cv, mv] 25)) ((w.alloc (.cells #[cv, mv] 25)).alloc (.cells #[.string name] 9)) := (Below.refl _ _).alloc (Nat.le_refl _) _
      have hsz : (w.alloc (.cells #[cv, mv] 25)).heap.size = w.heap.size + 1 := World.size_alloc _ _
      refine ⟨_, _, I, rfl, hx2, hE1.trans (hx1.ext hb2 (fun _ _ k => k)), fun j hj _ => ?_, ?_⟩
      ·rw [upd_ne _ _ (fun e => by subst e; simp [h2] at hj), upd_ne _ _ (fun e => by subst e; simp [h1] at hj)]
      ·show _ = Value.func _ _ _
       rw [hsz]
       simp only [List.map_cons, List.map_nil, upd_same]
       rw [upd_ne _ _ h12, upd_same]
end V
end Go.Proofs.YthhpcjoaogmhbaaGreatDoor
end
section
namespace Go.Proofs.YthhpcjoaogmhbaaGreatDoor
open Go.Shelf Go.RowKit Go.Lib
theorem slotInfo : ∃ i z, Tryz.prog.info? 35 = some i ∧ i.zero = some z ∧ i.size = 2 ∧ i.bytes = 32 ∧ z.cells.size = 2 := by
 obtain ⟨i, z, h1, h2, h3, -⟩ := V.tab_ok.zero 35 _ rfl
 obtain ⟨-, ⟨i', h4, h5⟩, -⟩ := V.tab_ok.ty 35 _ _ rfl
 obtain ⟨i2, h6, h7⟩ := V.tab_ok.bytes 35 _ rfl
 rw [h1] at h4 h6
 cases h4; cases h6
 exact ⟨i, z, h1, h2, h5, h7, by rw [h3]; rfl⟩
set_option maxHeartbeats 4000000 in
set_option maxRecDepth 100000 in
theorem grow_run (n : Nat) (h0 : 0 < n) (hn : n ≤ 1000000000000) (w : World) (i : TypeInfo) (z : Value) (hi : Tryz.prog.info? 35 = some i) (hz : i.zero = some z) (hs : i.size = 2) (hb : i.bytes = 32) :
 Calls Tryz.prog 99 #[.slice none 0 0, .int .i64 n] w fun e w' =>
  e = .returned (.slice (some ⟨w.heap.size, 0, none⟩) 0 (grownCap w n 0 35)) ∧
  w' = w.drew.alloc (.cells (#[] ++ Builtin.zeroCells z.cells n ++ Builtin.zeroCells z.cells (grownCap w n 0 35 - n)) 35) := by
 have h1 : ¬ ((n : Int) < 0) := by omega
 have h2 : wrap64 ((n : Int) - 0) = (n : Int) := by unfold wrap64; omega
 have h4 : (n : Int) > 0 := by omega
 have hold : (Builtin.firstCells i.size 0 (.slice none 0 0)).run Tryz.prog w.drew = .ok (([] : List Value).toArray) w.drew := run_firstCells_none w.drew i.size 0 0 0
 have hrz : ∀ ty, (Builtin.append_ #[26, 3] ty #[.slice none 0 0, .int .i64 (n : Int)]).run Tryz.prog w =
  .ok (.slice (some ⟨w.heap.size, 0, none⟩) n (grownCap w n 0 35)) (w.drew.alloc (.cells (#[] ++ Builtin.zeroCells z.cells n ++ Builtin.zeroCells z.cells (grownCap w n 0 35 - n)) 35)) := fun ty => by
  have h := Lib.run_append_grow_zeros w 26 3 ty 35 i z .i64 .i64 Tryz.underlying26 Tryz.underlying3 hi hz none 0 0 [] hold n (by omega) (by omega) (by omega) (by omega)
   (by rw [hb]; omega)
   (by rw [Nat.zero_add]; exact growslice_fits h0 (by rw [hb]; omega))
  rw [Nat.zero_add] at h
  exact h
 have hGn : n ≤ grownCap w n 0 35 := grownCap_ge w _ _ _
 obtain ⟨G, hG⟩ : ∃ G, G = grownCap w n 0 35 := ⟨_, rfl⟩
 rw [← hG] at hrz hGn ⊢
 clear hold hG
 go_enter Tryz.func99, Tryz.ntmps99
 go_wp2_with (at_builtin; refine Lib.wpList_append_run _ rfl _ _ _ _ rfl _ _ rfl rfl _ _ (hrz _) ?_)
 all_goals (go_ret; exact ⟨rfl, rfl⟩)
set_option maxHeartbeats 1000000 in
theorem grow_zero (w : World) :
 Calls Tryz.prog 99 #[.slice none 0 0, .int .i64 0] w fun e w' => e = .returned (.slice none 0 0) ∧ w' = w := by
 go_enter Tryz.func99, Tryz.ntmps99
 go_wp2
 all_goals (go_ret; exact ⟨rfl, rfl⟩)
namespace V
theorem grow_ok (n : Nat) (hn : n ≤ 1000000000000) (M : Mem) (id : Nat) (hid : M id = none) : CallE Tryz.prog 99 [.nil, .c (.int .i64 n)] M [] (.own id) (upd M id (some (.arr 35 2 []))) := by
 have hne : ∀ j, (M j).isSome = true → j ≠ id := fun j hj e => by subst e; rw [hid] at hj; cases hj
 have liv : ∀ j, (M j).isSome = true → (upd M id (some (.arr 35 2 [])) j).isSome = true := fun j hj => by rw [upd_ne _ _ (hne j hj)]; exact hj
 refine ⟨enters_of Tryz.func99 (by kernel_rfl) rfl, fun j hj => ?_, liv, fun hw i o ho j hj => ?_, ?_⟩
 ·obtain rfl : j = id := by simpa [A.ids] using hj
  rw [upd_same]; rfl
 ·unfold upd at ho
  split at ho
  ·cases ho; simp [O.ids] at hj
  ·exact liv j (hw i o ho j hj)
 ·intro w0 I0 B I w vals hm hv
  match vals, hv with
  | [v0, v1], ⟨h0, h1, _⟩ =>
    obtain rfl : v0 = .slice none 0 0 := h0
    have h1 : RC w I v1 (.int .i64 n) := h1
    obtain rfl := h1.toInt.1
    rcases Nat.eq_zero_or_pos n with rfl | hpos
    ·refine (grow_zero w).mono ?_
     rintro e w' ⟨rfl, rfl⟩
     exact ⟨_, _, I, rfl, hm.newNil hid true _ _, Ext.refl _ _, fun j hj _ => upd_ne _ _ (hne j hj), (upd_same ..).symm, none, 0, 0, rfl⟩
    ·obtain ⟨i, z, hi, hz, hs, hb, hzs⟩ := slotInfo
     refine (grow_run n hpos hn w i z hi hz hs hb).mono ?_
     rintro e w' ⟨rfl, rfl⟩
     have hE : Ext w w.drew I I := ⟨fun _ _ k => k, fun _ _ _ => rfl⟩
     have hmd := hm.call (Below.refl _ _).drew
     have hge : n ≤ grownCap w n 0 35 := grownCap_ge w _ _ _
     have hle : grownCap w n 0 35 ≤ maxLen := grownCap_le_maxLen w n 0 _ (by unfold maxLen; omega)
     generalize grownCap w n 0 35 = G at hge hle ⊢
     have hrow : (#[] ++ Builtin.zeroCells z.cells n ++ Builtin.zeroCells z.cells (G - n)).size = G * 2 := by
      simp only [Array.size_append, List.size_toArray, List.length_nil, size_zeroCells, hzs]
      omega
     have hnb : ∀ o, ¬ I w.heap.size o := fun o ho => absurd (hm.there _ _ ho) (Nat.lt_irrefl _)
     refine ⟨_, _, I, rfl, hmd.alloc hid (v := .slice (some ⟨w.heap.size, 0, none⟩) 0 G) ⟨[], ⟨rfl, .inr ⟨w.heap.size, G, _, by rw [upd_same]; rfl, Nat.zero_le _, heap_alloc_new w.drew _, Nat.zero_le _, hle, hrow, by simp⟩⟩, trivial, fun x hx => by simp at hx, fun b hb o => ?_⟩ (fun k hk => ?_) (fun j hj => by simp [O.ids] at hj),
      ?_, fun j hj _ => upd_ne _ _ (hne j hj), (upd_same ..).symm, _, 0, G, rfl⟩
     ·rw [upd_same] at hb
      obtain rfl : w.heap.size = b := by simpa [Value.ownBlock] using hb
      exact ⟨fun h => absurd h (hnb o), fun h => by simp at h⟩
     ·have hk : (upd B id (.slice (some ⟨w.heap.size, 0, none⟩) 0 G) id).ownBlock = some k := hk
      rw [upd_same] at hk
      have : w.heap.size = k := by simpa [Value.ownBlock] using hk
      exact this.symm
     ·exact ⟨fun _ _ k => k, fun b o ho => World.cell?_of_block (by
       have := hm.there b o ho
       show ((w.drew.heap.push _)[b]?) = w.heap[b]?
       rw [Array.getElem?_push_lt (by exact this)]
       exact (Array.getElem?_eq_getElem this).symm)⟩
end V
end Go.Proofs.YthhpcjoaogmhbaaGreatDoor
end
section
namespace Go.Proofs.YthhpcjoaogmhbaaGreatDoor
namespace V
open Go.RowKit
theorem cvs_caps {m : Mem} : ∀ caps : List (List C), Cvs m (caps.map A.rptr) (caps.map A.rptr)
 | [] => trivial
 | _ :: l => ⟨cv_refl, cvs_caps l⟩
theorem idxB_none {α : Type} {p : α → Bool} {l : List α} (h : l.any p = false) : idxB p l = -1 := by
 induction l with
 | nil => rfl
 | cons x l ih =>
   simp only [List.any_cons, Bool.or_eq_false_iff] at h
   unfold idxB
   rw [if_neg (by simp [h.1]), ih h.2]; simp
theorem idxB_at {α : Type} {p : α → Bool} {l : List α} {k : Nat} {x : α} (h : (l.take k).any p = false) (hx : l[k]? = some x) (hp : p x = true) : idxB p l = k := by
 induction l generalizing k with
 | nil => simp at hx
 | cons y l ih =>
   unfold idxB
   cases k with
   | zero => simp at hx; subst hx; simp [hp]
   | succ k =>
     simp only [List.take_succ_cons, List.any_cons, Bool.or_eq_false_iff] at h
     rw [if_neg (by simp [h.1]), ih h.2 (by simpa using hx)]
     rw [if_neg (by omega)]; simp
theorem idxB_any {α : Type} (p : α → Bool) (l : List α) : decide ((0 : Int) ≤ idxB p l) = l.any p := by
 cases h : l.any p with
 | false => rw [idxB_none h]; rfl
 | true =>
   obtain ⟨x, hx, hp⟩ := List.any_eq_true.1 h
   have hge := idxB_ge p l
   by_cases h1 : idxB p l = -1
   ·exfalso
    have : ∀ l : List α, x ∈ l → idxB p l ≠ -1 := by
     intro l
     induction l with
     | nil => intro h; simp at h
     | cons y l ih =>
       intro h
       unfold idxB
       by_cases hy : p y = true
       ·rw [if_pos hy]; decide
       ·rw [if_neg hy]
        rcases List.mem_cons.1 h with rfl | h
        ·exact absurd hp hy
        ·have := ih h
         have h3 := idxB_ge p l
         rw [if_neg this]; omega
    exact this l hx h1
   ·simp; omega
theorem idxClass_ok (l : List Class) (f : FuncId) (caps : List (List C)) (p : Class → Bool) (hlen : l.length ≤ 1000000000000) (hk : ∀ x ∈ l, ∀ m, COk Tryz.prog f (.agg (cClass x) :: caps.map A.rptr) m (.c (.bool (p x)))) (m : Mem) : COk Tryz.prog 56 [.c (.sl (l.map cClass)), .fnR f caps] m (.c (.int .i64 (idxB p l))) := by
 refine (ok_pure tab_ok Tryz.func56 (by kernel_rfl) rfl rfl (by rfl) (by rfl) (by rfl) (fun R hkeep => ?_) m)
 refine W.go ?_
 refine W.loop (ι := Nat) (fun k => ⟨upd (upd (upd (upd (upd (fun _ => .top) 0 (.c (.sl (l.map cClass)))) 1 (.fnR f caps)) 4 (.c (.int .i64 0))) 7 (.c (.int .i64 l.length))) 8 (.c (.int .i64 k)), Mem.nil⟩) (fun k => k ≤ l.length ∧ (l.take k).any p = false) (fun k => l.length - k) 0 ?start ⟨Nat.zero_le _, rfl⟩ ?round
 case start =>
  exact le_D (kept_not hkeep)
 case round =>
  rintro k ⟨hkl, hno⟩
  refine W.go ?_
  refine W.cond rfl ?_ ?_
  ·intro hlt
   simp only [decide_eq_true_eq, Int.ofNat_lt] at hlt
   obtain ⟨x, hx⟩ : ∃ x, l[k]? = some x := ⟨_, List.getElem?_eq_getElem hlt⟩
   refine W.go ?_
   refine W.regionK tab_ok 0 (by decide) ?_
   refine runk_split 5 zm30q15 ?_
   refine runk_callF rfl rfl rfl rfl rfl (cvs_cons cv_refl (cvs_caps _)) (hk x (List.mem_of_getElem? hx) _) ?_
   refine xe0 ?_
   refine W.cond rfl ?_ ?_
   ·intro hp
    refine W.go ?_
    refine W.ret ⟨.inr rfl, by rfl, ?_⟩
    simp only [Tryz.f56, resA, resOne, toT, fin, exb, Nat.reduceAdd, Nat.reduceLeDiff, Nat.reduceEqDiff, Nat.reduceMul, Int.reduceToNat, reduceIte, Int.reduceLE, Int.reduceNeg]
    rw [idxB_at hno hx hp]
   ·intro hp
    refine W.go ?_
    refine ⟨k + 1, ⟨hlt, ?_⟩, by omega, ?_⟩
    ·rw [List.take_add_one, hx, List.any_append, hno]; simp [hp]
    exact le_Sk (kept_not hkeep)
  ·intro hge
   simp only [decide_eq_false_iff_not, Int.ofNat_lt] at hge
   obtain rfl : k = l.length := by omega
   rw [List.take_length] at hno
   refine W.go ?_
   refine W.ret ⟨.inr rfl, by rfl, ?_⟩
   simp only [Tryz.f56, resA, resOne, toT, fin, exb, Nat.reduceAdd, Nat.reduceLeDiff, Nat.reduceEqDiff, Nat.reduceMul, Int.reduceToNat, reduceIte, Int.reduceLE, Int.reduceNeg]
   rw [idxB_none hno]
theorem anyClass_ok (l : List Class) (f : FuncId) (caps : List (List C)) (p : Class → Bool) (hlen : l.length ≤ 1000000000000) (hk : ∀ x ∈ l, ∀ m, COk Tryz.prog f (.agg (cClass x) :: caps.map A.rptr) m (.c (.bool (p x)))) (m : Mem) : COk Tryz.prog 27 [.c (.sl (l.map cClass)), .fnR f caps] m (.c (.bool (l.any p))) := by
 refine (ok_pure tab_ok Tryz.func27 (by kernel_rfl) rfl rfl (by rfl) (by rfl) (by rfl) (fun R hkeep => ?_) m)
 refine W.go ?_
 refine W.regionK tab_ok 0 (by decide) ?_
 refine xs0 2 ?_
 refine runk_call rfl rfl rfl rfl rfl (by simp) cw2 (idxClass_ok l f caps p hlen hk _) ?_
 refine xe0 ?_
 refine W.go ?_
 refine W.ret ⟨.inr rfl, by rfl, ?_⟩
 simp only [Tryz.f27, resA, resOne, toT, fin, exb, Nat.reduceAdd, Nat.reduceLeDiff, Nat.reduceEqDiff, Nat.reduceMul, Int.reduceToNat, reduceIte, Int.reduceLE, Int.reduceNeg]
 rw [idxB_any p l]
theorem idxMethod_ok (l : List Method) (f : FuncId) (caps : List (List C)) (p : Method → Bool) (hlen : l.length ≤ 1000000000000) (hk : ∀ x ∈ l, ∀ m, COk Tryz.prog f (.agg (cMethod x) :: caps.map A.rptr) m (.c (.bool (p x)))) (m : Mem) : COk Tryz.prog 60 [.c (.sl (l.map cMethod)), .fnR f caps] m (.c (.int .i64 (idxB p l))) := by
 refine (ok_pure tab_ok Tryz.func60 (by kernel_rfl) rfl rfl (by rfl) (by rfl) (by rfl) (fun R hkeep => ?_) m)
 refine W.go ?_
 refine W.loop (ι := Nat) (fun k => ⟨upd (upd (upd (upd (upd (fun _ => .top) 0 (.c (.sl (l.map cMethod)))) 1 (.fnR f caps)) 4 (.c (.int .i64 0))) 7 (.c (.int .i64 l.length))) 8 (.c (.int .i64 k)), Mem.nil⟩) (fun k => k ≤ l.length ∧ (l.take k).any p = false) (fun k => l.length - k) 0 ?start ⟨Nat.zero_le _, rfl⟩ ?round
 case start =>
  exact le_D (kept_not hkeep)
 case round =>
  rintro k ⟨hkl, hno⟩
  refine W.go ?_
  refine W.cond rfl ?_ ?_
  ·intro hlt
   simp only [decide_eq_true_eq, Int.ofNat_lt] at hlt
   obtain ⟨x, hx⟩ : ∃ x, l[k]? = some x := ⟨_, List.getElem?_eq_getElem hlt⟩
   refine W.go ?_
   refine W.regionK tab_ok 0 (by decide) ?_
   refine runk_split 5 zm30q13 ?_
   refine runk_callF rfl rfl rfl rfl rfl (cvs_cons cv_refl (cvs_caps _)) (hk x (List.mem_of_getElem? hx) _) ?_
   refine xe0 ?_
   refine W.cond rfl ?_ ?_
   ·intro hp
    refine W.go ?_
    refine W.ret ⟨.inr rfl, by rfl, ?_⟩
    simp only [Tryz.f60, resA, resOne, toT, fin, exb, Nat.reduceAdd, Nat.reduceLeDiff, Nat.reduceEqDiff, Nat.reduceMul, Int.reduceToNat, reduceIte, Int.reduceLE, Int.reduceNeg]
    rw [idxB_at hno hx hp]
   ·intro hp
    refine W.go ?_
    refine ⟨k + 1, ⟨hlt, ?_⟩, by omega, ?_⟩
    ·rw [List.take_add_one, hx, List.any_append, hno]; simp [hp]
    exact le_Sk (kept_not hkeep)
  ·intro hge
   simp only [decide_eq_false_iff_not, Int.ofNat_lt] at hge
   obtain rfl : k = l.length := by omega
   rw [List.take_length] at hno
   refine W.go ?_
   refine W.ret ⟨.inr rfl, by rfl, ?_⟩
   simp only [Tryz.f60, resA, resOne, toT, fin, exb, Nat.reduceAdd, Nat.reduceLeDiff, Nat.reduceEqDiff, Nat.reduceMul, Int.reduceToNat, reduceIte, Int.reduceLE, Int.reduceNeg]
   rw [idxB_none hno]
theorem class1_ok (d : Class) (x : Class) (m : Mem) : COk Tryz.prog 58 [.agg (cClass d), .rptr (cClass x)] m (.c (.bool (d.name.toList == x.super.toList))) := by
 refine (ok_pure tab_ok Tryz.func58 (by kernel_rfl) rfl rfl (by rfl) (by rfl) (by rfl) (fun R hkeep => ?_) m)
 repeat (first | refine W.seq ?_ | refine W.block ?_ | refine W.skip ?_ | refine W.exit ?_ | refine W.g ?_ zm30q19)
 exact W.ret ⟨.inr rfl, by rfl, (by simp only [Tryz.f58, resA, resOne, toT, fin, exb, Nat.reduceAdd, Nat.reduceLeDiff, Nat.reduceEqDiff, Nat.reduceMul, Int.reduceToNat, reduceIte, Int.reduceLE, Int.reduceNeg, cClass])⟩
theorem class2_ok (o : Method) (x : Method) (m : Mem) : COk Tryz.prog 61 [.agg (cMethod o), .rptr (cMethod x)] m (.c (.bool (o.name.toList == x.name.toList))) := by
 refine (ok_pure tab_ok Tryz.func61 (by kernel_rfl) rfl rfl (by rfl) (by rfl) (by rfl) (fun R hkeep => ?_) m)
 repeat (first | refine W.seq ?_ | refine W.block ?_ | refine W.skip ?_ | refine W.exit ?_ | refine W.g ?_ zm30q18)
 exact W.ret ⟨.inr rfl, by rfl, (by simp only [Tryz.f61, resA, resOne, toT, fin, exb, Nat.reduceAdd, Nat.reduceLeDiff, Nat.reduceEqDiff, Nat.reduceMul, Int.reduceToNat, reduceIte, Int.reduceLE, Int.reduceNeg, cMethod])⟩
theorem namesS_ok (l : List Slot) (hlen : l.length ≤ 1000000000) (m : Mem) : COk Tryz.prog 59 [.c (.sl (l.map cSlot))] m (.c (.sl ((namesL l).map cStr))) := by
 refine (ok_pure tab_ok Tryz.func59 (by kernel_rfl) rfl rfl (by rfl) (by rfl) (by rfl) (fun R hkeep => ?_) m)
 refine W.go ?_
 refine W.newArr 2 2 9 1 rfl rfl ?_
 refine W.go ?_
 refine W.loop (ι := Nat) (fun k => ⟨upd (upd (upd (upd (fun _ => .top) 2 (.own 2)) 5 (.c (.sl (l.map cSlot)))) 6 (.c (.int .i64 l.length))) 7 (.c (.int .i64 k)), upd Mem.nil 2 (some (.arr 9 1 ((namesL (l.take k)).map cStr)))⟩) (fun k => k ≤ l.length) (fun k => l.length - k) 0 ?start (Nat.zero_le _) ?round
 case start =>
  refine le_L ?sle ?mle (kept_not hkeep)
  case mle => repeat (first | exact mle_nil _ | exact mle_refl _ | refine mle_upd ?_ (by first | rfl | (simp only [upd_app, killM_app, Nat.reduceEqDiff, reduceIte, List.take_zero, namesL, List.map_nil]; done)))
  case sle => repeat (first | exact sle_top _ | exact sle_refl _ | refine sle_upd ?_ (by first | rfl | (simp only [upd_app, entry_zero, entry_succ, Nat.reduceEqDiff, reduceIte, List.take_zero, namesL, List.map_nil]; done)))
 case round =>
  intro k hk
  refine W.go ?_
  refine W.cond rfl ?_ ?_
  ·intro hlt
   simp only [decide_eq_true_eq, Int.ofNat_lt] at hlt
   obtain ⟨x, hx⟩ : ∃ x, l[k]? = some x := ⟨_, List.getElem?_eq_getElem hlt⟩
   repeat (first | refine W.seq ?_ | refine W.block ?_ | refine W.skip ?_ | refine W.exit ?_ | refine W.g ?_ (by simp only [exb, Nat.reduceAdd, Nat.reduceLeDiff, Nat.reduceEqDiff, Nat.reduceMul, Int.reduceToNat, reduceIte, Int.reduceLE, Int.reduceNeg, at_map hx, cSlot]; rfl))
   refine W.regionK tab_ok 0 (by decide) ?_
   refine xs0 4 ?_
   refine runk_append tab_ok 2 rfl rfl rfl rfl rfl rfl rfl rfl zm30q16 rfl rfl rfl rfl (nokeep hkeep) (by simp) (by simp [namesL]; omega) (by decide) ?_
   refine xe0 ?_
   refine W.go ?_
   refine ⟨k + 1, hlt, by omega, ?_⟩
   refine le_L ?sle ?mle (kept_not hkeep)
   case mle => repeat (first | exact mle_nil _ | exact mle_refl _ | refine mle_upd ?_ (by first | rfl | (simp only [upd_app, killM_app, Nat.reduceEqDiff, reduceIte, wrap_succ (show k + 1 < 9223372036854775808 by omega), namesL_take hx, List.map_append, List.map_cons, List.map_nil, cStr]; done)))
   case sle => repeat (first | exact sle_top _ | exact sle_refl _ | refine sle_upd ?_ (by first | rfl | (simp only [upd_app, entry_zero, entry_succ, Nat.reduceEqDiff, reduceIte, wrap_succ (show k + 1 < 9223372036854775808 by omega), namesL_take hx, List.map_append, List.map_cons, List.map_nil, cStr]; done)))
  ·intro hge
   simp only [decide_eq_false_iff_not, Int.ofNat_lt] at hge
   obtain rfl : k = l.length := by omega
   refine W.go ?_
   refine W.ret ⟨.inr rfl, by rfl, ?_⟩
   simp only [Tryz.f59, resA, resOne, toT, fin, exb, Nat.reduceAdd, Nat.reduceLeDiff, Nat.reduceEqDiff, Nat.reduceMul, Int.reduceToNat, reduceIte, Int.reduceLE, Int.reduceNeg]
   rw [List.take_length]
theorem rc_strs {w : World} {I : Nat → Nat → Prop} {v : Value} {l : List ByteArray} (hI : ∀ b o, I b o → b < w.heap.size) (h : RC w I v (.sl (l.map cStr))) : RStrs w v l ∧ ∀ s ∈ l, s.size ≤ maxLen := by
 cases h with
 | @sl a n cap e _ f hn hc hm hl ha hr =>
   have key : ∀ i x, l[i]? = some x → ∃ b off, a = some ⟨b, off, none⟩ ∧ b < w.heap.size ∧ w.cell? ⟨b, off + i, none⟩ = some (.string x) ∧ x.size ≤ maxStr := fun i x hx => by
    have hx' : (l.map cStr)[i]? = some (cStr x) := by simp [hx]
    have he : e = 1 := (hl _ (List.mem_of_getElem? hx')).symm
    subst he
    obtain ⟨b, off, ea, hcell⟩ := ha i _ hx'
    have h0 := RC.toStr (hr i 0 _ _ hx' rfl)
    have h1 := hcell 0 (by decide)
    rw [h0.1] at h1
    simp only [Nat.mul_one, Nat.add_zero] at h1
    exact ⟨b, off, ea, hI _ _ h1.1, h1.2, h0.2⟩
   refine ⟨⟨a, n, cap, rfl, by simpa using hn, by unfold maxLen at hm; omega, fun i x hx => let ⟨b, off, h1, h2, h3, _⟩ := key i x hx; ⟨b, off, h1, h2, h3⟩⟩, fun s hs => ?_⟩
   obtain ⟨i, hi⟩ := List.getElem?_of_mem hs
   obtain ⟨b, off, h1, h2, h3, h4⟩ := key i s hi
   unfold maxStr at h4; unfold maxLen; omega
theorem once_ok (l : List ByteArray) (hl : l.length ≤ 1000000000000) (m : Mem) : COk Tryz.prog 26 [.c (.sl (l.map cStr))] m (.c (.bool (onceB l))) := by
 refine ⟨enters_of Tryz.func26 (by kernel_rfl) rfl, rfl, fun m' _ => ?_⟩
 intro w0 I0 B I w vals hm hv
 match vals, hv with
 | [v], ⟨h1, _⟩ =>
   obtain ⟨h2, h3⟩ := rc_strs hm.there h1
   refine (once_any v l w h2 hl h3).mono ?_
   rintro e w' ⟨rfl, hb⟩
   exact ⟨_, I, rfl, hb, fun _ _ k => k, fun _ _ k => .inl k, .bool⟩
theorem alike_ok (x y : Method) (m : Mem) : COk Tryz.prog 62 [.agg (cMethod x), .agg (cMethod y)] m (.c (.bool (alikeB x y))) := by
 refine ⟨enters_of Tryz.func62 (by kernel_rfl) rfl, rfl, fun m' _ => ?_⟩
 intro w0 I0 B I w vals hm hv
 match vals, hv with
 | [v, u], ⟨h1, h2, _⟩ =>
   obtain ⟨vs, rfl, h1⟩ := h1
   obtain ⟨us, rfl, h2⟩ := h2
   refine (alike_any x y vs us (max (dMethod x) (dMethod y)) w (rcs_method hm.there (Nat.le_max_left _ _) h1) (rcs_method hm.there (Nat.le_max_right _ _) h2)).mono ?_
   rintro e w' ⟨rfl, hb⟩
   exact ⟨_, I, rfl, hb, fun _ _ k => k, fun _ _ k => .inl k, .bool⟩
end V
end Go.Proofs.YthhpcjoaogmhbaaGreatDoor
end
section
namespace Go.Proofs.YthhpcjoaogmhbaaGreatDoor
namespace V
open Go.RowKit
theorem fieldsUp_len {cs : List Class} (hS : SmallC cs) : ∀ l : List (Nat × Nat), (fieldsUp cs l).length ≤ l.length * 1048576
 | [] => by simp [fieldsUp]
 | x :: l => by
   have ih := fieldsUp_len hS l
   unfold fieldsUp at *
   rw [List.flatMap_cons, List.length_append, List.length_cons]
   have : (fieldsAt cs x).length ≤ 1048576 := by
    unfold fieldsAt
    cases h : cs[x.2]? with
    | none => simp
    | some k => have := (hS k (List.mem_of_getElem? h)).1; simpa [namesL] using this
   omega
theorem sn_top {n : Nat} : ∀ t, n ≤ t → (fun _ : Nat => A.top) t = A.top := fun _ _ => rfl
theorem sn_upd {n k : Nat} {s : Nat → A} {x : A} (h : ∀ t, n ≤ t → s t = A.top) (hk : k < n) : ∀ t, n ≤ t → upd s k x t = A.top := fun t ht => by
 rw [upd_ne _ _ (by omega)]; exact h t ht
theorem mle_some {m m' : Mem} (h : MLe m m') : ∀ j o, m' j = some o → m j = some o := fun j o ho => by
 rcases h j with e | e
 ·rw [e] at ho; cases ho
 ·rw [← e]; exact ho
def memC (cs : List Class) (mn : C) (c : Class) (b : Bool) (l : List ByteArray) : Mem :=
 upd (upd (upd (upd (upd Mem.nil 2 (some (.box 25 [.c (.sl (cs.map cClass)), .c mn]))) 3 (some (.box 42 ((cClass c).map A.c)))) 4 (some (.box 4 [.c (.bool b)]))) 5 (some (.box 55 [.own 50]))) 50 (some (.arr 9 1 (l.map cStr)))
def slotC : Nat → A := upd (upd (upd (upd (upd (fun _ => .top) 2 (.ptr 2 0)) 3 (.ptr 3 0)) 4 (.ptr 4 0)) 5 (.ptr 5 0)) 6 .nil
theorem slotC_ids : ∀ t, ∀ j ∈ (slotC t).ids, j ≤ 5 := by
 intro t j hj
 unfold slotC upd at hj
 repeat' (split at hj)
 all_goals (simp [A.ids] at hj)
 all_goals omega
theorem fits_of {y : Method} {l : List Method} : (idxB (methB y.name) l < 0 → fitsB y l = true) ∧ ∀ o, l[(idxB (methB y.name) l).toNat]? = some o → 0 ≤ idxB (methB y.name) l → fitsB y l = alikeB y o := by
 obtain ⟨h1, h2⟩ := idx_find (methB y.name) l
 refine ⟨fun h => ?_, fun o ho h => ?_⟩
 ·unfold fitsB; rw [h1 h]
 ·unfold fitsB; rw [← h2 h, ho]
set_option maxHeartbeats 4000000 in
theorem class_ok (cs : List Class) (mn : C) (c : Class) (hS : SmallC cs) (hlen : cs.length ≤ 16) (hc : c ∈ cs) (m : Mem) : COk Tryz.prog 29 [.agg [.sl (cs.map cClass), mn], .agg (cClass c)] m (.c (.bool (okClassB cs c))) := by
 refine (ok_pureM tab_ok Tryz.func29 (by kernel_rfl) rfl rfl (by rfl) (by rfl) (by rfl) (fun R hkeep => ?_) m)
 repeat (first | refine W.seq ?_ | refine W.block ?_ | refine W.skip ?_ | refine W.exit ?_ | refine W.g ?_ zm30q19)
 refine W.newRowBox true 5 0 50 9 1 rfl rfl rfl ?_
 repeat (first | refine W.seq ?_ | refine W.block ?_ | refine W.skip ?_ | refine W.exit ?_ | refine W.g ?_ zm30q19)
 refine W.regionK tab_ok 0 (by decide) ?_
 refine runk_split 3 zm30q19 ?_
 refine runk_call0 rfl rfl rfl rfl rfl rfl (by simp) cw2 (up_ok (cs.map cClass) mn c.name _ 1000 1001 rfl rfl (by decide)) ?_
 refine xe0 ?_
 refine W.go ?_
 refine W.rangeUp cs c.name mn 1000 1001 1002 1003 slotC (fun k => memC cs mn c false (fieldsUp cs ((upX cs (cs.length + 1) 0 c.name).take k))) (fun k => ((upX cs (cs.length + 1) 0 c.name).take k).all (roundB cs c) = true) (by omega) rfl rfl rfl (by decide) rfl rfl (by decide) rfl rfl ?sle ?sn ?m0 ?good ?round ?done
 case sle =>
  unfold slotC
  (repeat (first | exact sle_top _ | exact sle_refl _ | refine sle_upd ?_ (by first | rfl | (simp only [upd_app, entry_zero, entry_succ, Nat.reduceEqDiff, reduceIte]; done))))
 case sn =>
  unfold slotC
  (repeat (first | exact sn_top | refine sn_upd ?_ (by decide)))
 case m0 =>
  refine mle_some ?_
  unfold memC
  (repeat (first | exact mle_nil _ | exact mle_refl _ | refine mle_upd ?_ (by first | rfl | (simp only [upd_app, killM_app, Nat.reduceEqDiff, reduceIte, List.take_zero, fieldsUp, List.flatMap_nil, List.map_nil, cClass, List.map_cons]; done))))
 case good =>
  intro k hk
  refine ⟨?_, rfl, rfl, rfl, rfl, ?_, kept_not hkeep⟩
  ·unfold memC
   show MWf _ _
   (repeat (first | exact mwf_nil _ | refine mwf_upd ?_ (by simp [A.ids, O.ids, upd_app])))
  ·show SWf _ _
   unfold memC slotC
   (repeat (first | exact swf_top _ | refine swf_upd ?_ (by simp [A.ids, upd_app])))
 case round =>
  intro R' l hk' k j kc x1 x2 xL hInv hitem hkc
  repeat (first | refine WI.seq ?_ | refine WI.block ?_ | refine WI.skip ?_ | refine WI.exit ?_ | refine WI.region tab_ok 0 (by decide) (by kernel_rfl) (exec_run zm30q12) ?_)
  refine ⟨rfl, fun xL' => ?_⟩
  have hkl : k < 17 + 1 := by
   have := (List.getElem?_eq_some_iff.1 hitem).1
   have := upX_len cs (cs.length + 1) 0 c.name
   omega
  have hkU : k < (upX cs (cs.length + 1) 0 c.name).length := (List.getElem?_eq_some_iff.1 hitem).1
  -- a round that says no
  have bad : roundB cs c (k, j) = false → okClassB cs c = false := fun h => by
   unfold okClassB
   have : (upX cs (cs.length + 1) 0 c.name).all (roundB cs c) = false := by
    rw [List.all_eq_false]
    exact ⟨(k, j), List.mem_of_getElem? hitem, by rw [h]; decide⟩
   rw [this]; simp
  have hG : ∀ l, GoodM R.keep slotC 1000 1001 1002 1003 (memC cs mn c false l) := fun l => by
   refine ⟨?_, rfl, rfl, rfl, rfl, ?_, kept_not hkeep⟩
   ·unfold memC
    show MWf _ _
    (repeat (first | exact mwf_nil _ | refine mwf_upd ?_ (by simp [A.ids, O.ids, upd_app])))
   ·show SWf _ _
    unfold memC slotC
    (repeat (first | exact swf_top _ | refine swf_upd ?_ (by simp [A.ids, upd_app])))
  by_cases hkn : k = cs.length
  ·subst hkn
   repeat (first | refine WI.seq ?_ | refine WI.block ?_ | refine WI.skip ?_ | refine WI.exit ?_ | refine WI.region tab_ok 0 (by decide) (by kernel_rfl) (exec_run zm30q12) ?_)
   refine WI.cond rfl (fun _ => ?_) (fun h => by cases h)
   repeat (first | refine WI.seq ?_ | refine WI.block ?_ | refine WI.skip ?_ | refine WI.exit ?_ | refine WI.region tab_ok 0 (by decide) (by kernel_rfl) (exec_run zm30q12) ?_)
   refine WI.ret ⟨fun j => j, memC cs mn c false (fieldsUp cs ((upX cs (cs.length + 1) 0 c.name).take cs.length)), Le.toT ?_, hG _, fun b => ⟨.inr rfl, .inr ⟨b, 1002, rfl, rfl, rfl, ?_⟩⟩⟩
   ·simp only [fullM, memC]
    refine le_mk ?sle ?mle ?swf ?mwf (fun j hj => fullM_keep (hG _) hj) (by rfl)
    case swf => repeat (first | exact swf_top _ | refine swf_upd ?_ (by simp [A.ids, upd_app, cClass]))
    case mwf => repeat (first | exact mwf_nil _ | refine mwf_upd ?_ (by simp [A.ids, O.ids, upd_app, cClass]))
    case mle => repeat (first | exact mle_nil _ | exact mle_refl _ | refine mle_upd ?_ (by first | rfl | (simp only [upd_app, killM_app, O.kill, A.kill, Nat.reduceEqDiff, reduceIte, Option.map_some, Option.map_none, List.map_cons, List.map_nil, cClass]; done)))
    case sle => repeat (first | exact sle_top _ | exact sle_refl _ | refine sle_upd ?_ (by first | rfl | (simp only [upd_app, killS_app, A.kill, entry_zero, entry_succ, Nat.reduceEqDiff, reduceIte, cClass]; done)))
   ·simp only [Tryz.f29, resA, resOne, toT, fin, doneS, doneM, DID, exb, Nat.reduceAdd, Nat.reduceLeDiff, Nat.reduceEqDiff, Nat.reduceMul, Int.reduceToNat, reduceIte, Int.reduceLE, Int.reduceNeg, memC, slotC]
    rw [bad (by rw [roundB_at hkc]; simp [topB])]
  have hkn' : decide ((k : Int) = (cs.length : Int)) = false := by simp; omega
  have hF : List.map cStr (fieldsUp cs ((upX cs (cs.length + 1) 0 c.name).take k)) ++ List.map cStr (namesL kc.fields) = List.map cStr (fieldsUp cs ((upX cs (cs.length + 1) 0 c.name).take (k + 1))) := by
   rw [List.take_add_one, hitem]
   simp only [Option.toList_some]
   rw [fieldsUp_snoc hkc, List.map_append]
  have hn50 : ¬ R'.keep 50 := fun h => by
   rw [hk', hkeep] at h
   rcases h with h | ⟨t, h⟩ | h
   ·exact h
   ·have := slotC_ids t 50 h; omega
   ·omega
  -- a method that does not fit
  have bad2 : ∀ y ∈ c.methods, fitsB y kc.methods = false → okClassB cs c = false := fun y hy h => bad (by
   rw [roundB_at hkc]
   unfold topB
   have : (c.methods.all fun y => fitsB y kc.methods) = false := by
    rw [List.all_eq_false]
    exact ⟨y, hy, by rw [h]; decide⟩
   rw [this]; simp)
  have hkeepL : ∀ j, R'.keep j → (upd (fullM (memC cs mn c false (fieldsUp cs ((upX cs (cs.length + 1) 0 c.name).take (k + 1)))) 1000 1001 1002 1003 x1 x2 xL') 8 (some (.box 42 ((cClass kc).map A.c))) j).isSome = true := fun j hj => by
   rw [hk'] at hj
   unfold upd
   split
   ·rfl
   ·exact fullM_keep (hG _) hj
  have goodR : (kc.super.toList.isEmpty || cs.any (namedB kc.super)) = true → (c.methods.all fun y => fitsB y kc.methods) = true → ((upX cs (cs.length + 1) 0 c.name).take (k + 1)).all (roundB cs c) = true := fun h1 h2 => by
   rw [List.take_add_one, hitem, List.all_append, hInv]
   simp only [Option.toList_some, List.all_cons, List.all_nil, Bool.and_true, Bool.true_and]
   rw [roundB_at hkc]
   unfold topB
   rw [h1, h2]
   simp; exact hkn
  by_cases hse : kc.super.toList = []
  ·have hse' : (kc.super.toList == []) = true := by simp [hse]
   have good := goodR (by rw [hse]; rfl)
   repeat (first | refine WI.seq ?_ | refine WI.block ?_ | refine WI.skip ?_ | refine WI.exit ?_ | refine WI.region tab_ok 0 (by decide) (by kernel_rfl) (exec_run zm30q7) ?_)
   refine WI.cond rfl (fun h => by cases h) (fun _ => ?_)
   repeat (first | refine WI.seq ?_ | refine WI.block ?_ | refine WI.skip ?_ | refine WI.exit ?_ | refine WI.region tab_ok 0 (by decide) (by kernel_rfl) (exec_run zm30q12) ?_)
   refine WI.regionDK tab_ok 0 follows_mixed (by kernel_rfl) (by decide) (by kernel_rfl) ?_
   refine runk_split 3 zm30q12 ?_
   refine runk_call rfl rfl rfl rfl rfl (by simp) cw1 (namesS_ok kc.fields (by have := (hS kc (List.mem_of_getElem? hkc)).1; omega) _) ?_
   refine runk_split 0 zm30q14 ?_
   refine runk_append tab_ok 50 rfl rfl rfl rfl rfl rfl rfl rfl zm30q9 rfl rfl rfl rfl hn50 (by simp [cStr]) zm30q2 (by decide) ?_
   refine runk_exec zm30q14 ?_
   repeat (first | refine WI.seq ?_ | refine WI.block ?_ | refine WI.skip ?_ | refine WI.exit ?_ | refine WI.region tab_ok 0 (by decide) (by kernel_rfl) (exec_run zm30q12) ?_)
   refine WI.loop (ι := Nat) (fun q => ⟨upd (upd (upd (upd (upd (fun _ => .top) 4 (.ptr 4 0)) 8 (.ptr 8 0)) 43 (.c (.sl (c.methods.map cMethod)))) 44 (.c (.int .i64 c.methods.length))) 45 (.c (.int .i64 q)),
    upd (fullM (memC cs mn c false (fieldsUp cs ((upX cs (cs.length + 1) 0 c.name).take (k + 1)))) 1000 1001 1002 1003 x1 x2 xL') 8 (some (.box 42 ((cClass kc).map A.c)))⟩) (fun q => q ≤ c.methods.length ∧ (c.methods.take q).all (fun y => fitsB y kc.methods) = true) (fun q => c.methods.length - q) 0 ?start ⟨Nat.zero_le _, rfl⟩ ?round
   case start =>
    simp only [fullM, memC]
    refine le_mk ?sle ?mle ?swf ?mwf hkeepL (by rfl)
    case swf => repeat (first | exact swf_top _ | refine swf_upd ?_ (by simp [A.ids, upd_app, cClass, hF, fullM, memC]))
    case mwf => repeat (first | exact mwf_nil _ | refine mwf_upd ?_ (by simp [A.ids, O.ids, upd_app, cClass, hF, fullM, memC]))
    case mle => repeat (first | exact mle_nil _ | exact mle_refl _ | refine mle_upd ?_ zm30q6)
    case sle => repeat (first | exact sle_top _ | exact sle_refl _ | refine sle_upd ?_ zm30q24)
   case round =>
    rintro q ⟨hq, hfit⟩
    repeat (first | refine WI.seq ?_ | refine WI.block ?_ | refine WI.skip ?_ | refine WI.exit ?_ | refine WI.region tab_ok 0 (by decide) (by kernel_rfl) (exec_run zm30q12) ?_)
    refine WI.cond rfl ?_ ?_
    ·intro hlt
     simp only [decide_eq_true_eq, Int.ofNat_lt] at hlt
     obtain ⟨y, hy⟩ : ∃ y, c.methods[q]? = some y := ⟨_, List.getElem?_eq_getElem hlt⟩
     repeat (first | refine WI.seq ?_ | refine WI.block ?_ | refine WI.skip ?_ | refine WI.exit ?_ | refine WI.region tab_ok 0 (by decide) (by kernel_rfl) (exec_run zm30q5) ?_)
     refine WI.regionK tab_ok 0 (by decide) (by kernel_rfl) ?_
     refine runk_split 3 zm30q12 ?_
     refine runk_callR rfl rfl rfl rfl rfl (by simp) (cvrs_cons cvr_refl (cvrs_cons (cvr_fn (caps_one rfl rfl)) cvrs_nil)) (by rfl) (by rfl) (idxMethod_ok kc.methods 61 [cMethod y] (methB y.name) (by have := (hS kc (List.mem_of_getElem? hkc)).2.1; omega) (fun o _ m => class2_ok o y m)) ?_
     refine runk_exec zm30q12 ?_
     obtain ⟨hf1, hf2⟩ := fits_of (y := y) (l := kc.methods)
     by_cases hneg : idxB (methB y.name) kc.methods < 0
     ·have hd : decide ((0 : Int) ≤ idxB (methB y.name) kc.methods) = false := by simp; omega
      refine WI.seq ?_
      refine WI.regionDK tab_ok 0 follows_mixed (by kernel_rfl) (by decide) (by kernel_rfl) ?_
      refine runk_exec zm30q11 ?_
      refine WI.cond rfl (fun h => by cases h) (fun _ => ?_)
      repeat (first | refine WI.seq ?_ | refine WI.block ?_ | refine WI.skip ?_ | refine WI.exit ?_ | refine WI.region tab_ok 0 (by decide) (by kernel_rfl) (exec_run zm30q12) ?_)
      refine ⟨q + 1, ⟨hlt, ?_⟩, by omega, ?_⟩
      ·rw [List.take_add_one, hy, List.all_append, hfit]; simp [hf1 hneg]
      simp only [fullM, memC]
      refine le_mk ?sle ?mle ?swf ?mwf hkeepL (by rfl)
      case swf => repeat (first | exact swf_top _ | refine swf_upd ?_ zm30q27)
      case mwf => repeat (first | exact mwf_nil _ | refine mwf_upd ?_ zm30q26)
      case mle => repeat (first | exact mle_nil _ | exact mle_refl _ | refine mle_upd ?_ zm30q1)
      case sle => repeat (first | exact sle_top _ | exact sle_refl _ | refine sle_upd ?_ zm30q3)
     ·have hge : (0 : Int) ≤ idxB (methB y.name) kc.methods := by omega
      have hd : decide ((0 : Int) ≤ idxB (methB y.name) kc.methods) = true := by simp; omega
      obtain ⟨o, ho⟩ : ∃ o, kc.methods[(idxB (methB y.name) kc.methods).toNat]? = some o := by
       obtain ⟨o, ho, -⟩ := idxB_spec (methB y.name) kc.methods hge
       exact ⟨o, ho⟩
      refine WI.seq ?_
      refine WI.regionDK tab_ok 0 follows_mixed (by kernel_rfl) (by decide) (by kernel_rfl) ?_
      refine runk_split 9 zm30q4 ?_
      refine runk_call rfl rfl rfl rfl rfl (by simp) cw2 (alike_ok y o _) ?_
      refine runk_exec zm30q12 ?_
      refine WI.cond rfl ?_ ?_
      ·intro hal
       repeat (first | refine WI.seq ?_ | refine WI.block ?_ | refine WI.skip ?_ | refine WI.exit ?_ | refine WI.region tab_ok 0 (by decide) (by kernel_rfl) (exec_run zm30q12) ?_)
       refine WI.ret ⟨fun j => j, memC cs mn c false (fieldsUp cs ((upX cs (cs.length + 1) 0 c.name).take (k + 1))), Le.toT ?_, hG _, fun b => ⟨.inr rfl, .inr ⟨b, 1002, rfl, rfl, rfl, ?_⟩⟩⟩
       ·simp only [fullM, memC]
        refine le_mk ?sle ?mle ?swf ?mwf (fun j hj => fullM_keep (hG _) hj) (by rfl)
        case swf => repeat (first | exact swf_top _ | refine swf_upd ?_ zm30q29)
        case mwf => repeat (first | exact mwf_nil _ | refine mwf_upd ?_ zm30q28)
        case mle => repeat (first | exact mle_nil _ | exact mle_refl _ | refine mle_upd ?_ zm30q8)
        case sle => repeat (first | exact sle_top _ | exact sle_refl _ | refine sle_upd ?_ zm30q25)
       ·simp only [Tryz.f29, resA, resOne, toT, fin, doneS, doneM, DID, exb, Nat.reduceAdd, Nat.reduceLeDiff, Nat.reduceEqDiff, Nat.reduceMul, Int.reduceToNat, reduceIte, Int.reduceLE, Int.reduceNeg, memC, slotC]
        rw [bad2 y (List.mem_of_getElem? hy) (by rw [hf2 o ho hge]; simpa using hal)]
      ·intro hal
       repeat (first | refine WI.seq ?_ | refine WI.block ?_ | refine WI.skip ?_ | refine WI.exit ?_ | refine WI.region tab_ok 0 (by decide) (by kernel_rfl) (exec_run zm30q12) ?_)
       refine ⟨q + 1, ⟨hlt, ?_⟩, by omega, ?_⟩
       ·rw [List.take_add_one, hy, List.all_append, hfit]; simp [hf2 o ho hge]; simpa using hal
       simp only [fullM, memC]
       refine le_mk ?sle ?mle ?swf ?mwf hkeepL (by rfl)
       case swf => repeat (first | exact swf_top _ | refine swf_upd ?_ zm30q27)
       case mwf => repeat (first | exact mwf_nil _ | refine mwf_upd ?_ zm30q26)
       case mle => repeat (first | exact mle_nil _ | exact mle_refl _ | refine mle_upd ?_ zm30q1)
       case sle => repeat (first | exact sle_top _ | exact sle_refl _ | refine sle_upd ?_ zm30q3)
    ·intro hge
     simp only [decide_eq_false_iff_not, Int.ofNat_lt] at hge
     obtain rfl : q = c.methods.length := by omega
     repeat (first | refine WI.seq ?_ | refine WI.block ?_ | refine WI.skip ?_ | refine WI.exit ?_ | refine WI.region tab_ok 0 (by decide) (by kernel_rfl) (exec_run zm30q12) ?_)
     rw [List.take_length] at hfit
     refine ⟨good hfit, fun j => j, Le.toT ?_⟩
     simp only [fullM, memC]
     refine le_mk ?sle ?mle ?swf ?mwf (fun j hj => fullM_keep (hG _) hj) (by rfl)
     case swf => repeat (first | exact swf_top _ | refine swf_upd ?_ zm30q29)
     case mwf => repeat (first | exact mwf_nil _ | refine mwf_upd ?_ zm30q28)
     case mle => repeat (first | exact mle_nil _ | exact mle_refl _ | refine mle_upd ?_ zm30q8)
     case sle => repeat (first | exact sle_top _ | exact sle_refl _ | refine sle_upd ?_ zm30q25)
  ·have hse' : (kc.super.toList == []) = false := by simp [hse]
   repeat (first | refine WI.seq ?_ | refine WI.block ?_ | refine WI.skip ?_ | refine WI.exit ?_ | refine WI.region tab_ok 0 (by decide) (by kernel_rfl) (exec_run zm30q7) ?_)
   refine WI.regionK tab_ok 0 (by decide) (by kernel_rfl) ?_
   refine runk_split 13 zm30q7 ?_
   refine runk_callR rfl rfl rfl rfl rfl (by simp) (cvrs_cons cvr_refl (cvrs_cons (cvr_fn (caps_one rfl rfl)) cvrs_nil)) (by rfl) (by rfl) (anyClass_ok cs 58 [cClass kc] (namedB kc.super) (by omega) (fun x _ m => class1_ok x kc m)) ?_
   refine runk_exec zm30q12 ?_
   refine WI.cond rfl ?_ ?_
   ·intro hal
    repeat (first | refine WI.seq ?_ | refine WI.block ?_ | refine WI.skip ?_ | refine WI.exit ?_ | refine WI.region tab_ok 0 (by decide) (by kernel_rfl) (exec_run zm30q12) ?_)
    refine WI.ret ⟨fun j => j, memC cs mn c false (fieldsUp cs ((upX cs (cs.length + 1) 0 c.name).take k)), Le.toT ?_, hG _, fun b => ⟨.inr rfl, .inr ⟨b, 1002, rfl, rfl, rfl, ?_⟩⟩⟩
    ·simp only [fullM, memC]
     refine le_mk ?sle ?mle ?swf ?mwf (fun j hj => fullM_keep (hG _) hj) (by rfl)
     case swf => repeat (first | exact swf_top _ | refine swf_upd ?_ zm30q29)
     case mwf => repeat (first | exact mwf_nil _ | refine mwf_upd ?_ zm30q28)
     case mle => repeat (first | exact mle_nil _ | exact mle_refl _ | refine mle_upd ?_ zm30q8)
     case sle => repeat (first | exact sle_top _ | exact sle_refl _ | refine sle_upd ?_ zm30q25)
    ·simp only [Tryz.f29, resA, resOne, toT, fin, doneS, doneM, DID, exb, Nat.reduceAdd, Nat.reduceLeDiff, Nat.reduceEqDiff, Nat.reduceMul, Int.reduceToNat, reduceIte, Int.reduceLE, Int.reduceNeg, memC, slotC]
     rw [bad (by
      rw [roundB_at hkc]
      unfold topB
      have h1 : kc.super.toList.isEmpty = false := by cases h : kc.super.toList with | nil => exact absurd h hse | cons _ _ => rfl
      have h2 : cs.any (namedB kc.super) = false := by simpa using hal
      rw [h1, h2]; simp)]
   ·intro hal
    have good := goodR (by
     have h2 : cs.any (namedB kc.super) = true := by simpa using hal
     rw [h2]; simp)
    repeat (first | refine WI.seq ?_ | refine WI.block ?_ | refine WI.skip ?_ | refine WI.exit ?_ | refine WI.region tab_ok 0 (by decide) (by kernel_rfl) (exec_run zm30q12) ?_)
    refine WI.regionDK tab_ok 0 follows_mixed (by kernel_rfl) (by decide) (by kernel_rfl) ?_
    refine runk_split 3 zm30q12 ?_
    refine runk_call rfl rfl rfl rfl rfl (by simp) cw1 (namesS_ok kc.fields (by have := (hS kc (List.mem_of_getElem? hkc)).1; omega) _) ?_
    refine runk_split 0 zm30q14 ?_
    refine runk_append tab_ok 50 rfl rfl rfl rfl rfl rfl rfl rfl zm30q9 rfl rfl rfl rfl hn50 (by simp [cStr]) zm30q2 (by decide) ?_
    refine runk_exec zm30q14 ?_
    repeat (first | refine WI.seq ?_ | refine WI.block ?_ | refine WI.skip ?_ | refine WI.exit ?_ | refine WI.region tab_ok 0 (by decide) (by kernel_rfl) (exec_run zm30q12) ?_)
    refine WI.loop (ι := Nat) (fun q => ⟨upd (upd (upd (upd (upd (fun _ => .top) 4 (.ptr 4 0)) 8 (.ptr 8 0)) 43 (.c (.sl (c.methods.map cMethod)))) 44 (.c (.int .i64 c.methods.length))) 45 (.c (.int .i64 q)),
     upd (fullM (memC cs mn c false (fieldsUp cs ((upX cs (cs.length + 1) 0 c.name).take (k + 1)))) 1000 1001 1002 1003 x1 x2 xL') 8 (some (.box 42 ((cClass kc).map A.c)))⟩) (fun q => q ≤ c.methods.length ∧ (c.methods.take q).all (fun y => fitsB y kc.methods) = true) (fun q => c.methods.length - q) 0 ?start ⟨Nat.zero_le _, rfl⟩ ?round
    case start =>
     simp only [fullM, memC]
     refine le_mk ?sle ?mle ?swf ?mwf hkeepL (by rfl)
     case swf => repeat (first | exact swf_top _ | refine swf_upd ?_ (by simp [A.ids, upd_app, cClass, hF, fullM, memC]))
     case mwf => repeat (first | exact mwf_nil _ | refine mwf_upd ?_ (by simp [A.ids, O.ids, upd_app, cClass, hF, fullM, memC]))
     case mle => repeat (first | exact mle_nil _ | exact mle_refl _ | refine mle_upd ?_ zm30q6)
     case sle => repeat (first | exact sle_top _ | exact sle_refl _ | refine sle_upd ?_ zm30q24)
    case round =>
     rintro q ⟨hq, hfit⟩
     repeat (first | refine WI.seq ?_ | refine WI.block ?_ | refine WI.skip ?_ | refine WI.exit ?_ | refine WI.region tab_ok 0 (by decide) (by kernel_rfl) (exec_run zm30q12) ?_)
     refine WI.cond rfl ?_ ?_
     ·intro hlt
      simp only [decide_eq_true_eq, Int.ofNat_lt] at hlt
      obtain ⟨y, hy⟩ : ∃ y, c.methods[q]? = some y := ⟨_, List.getElem?_eq_getElem hlt⟩
      repeat (first | refine WI.seq ?_ | refine WI.block ?_ | refine WI.skip ?_ | refine WI.exit ?_ | refine WI.region tab_ok 0 (by decide) (by kernel_rfl) (exec_run zm30q5) ?_)
      refine WI.regionK tab_ok 0 (by decide) (by kernel_rfl) ?_
      refine runk_split 3 zm30q12 ?_
      refine runk_callR rfl rfl rfl rfl rfl (by simp) (cvrs_cons cvr_refl (cvrs_cons (cvr_fn (caps_one rfl rfl)) cvrs_nil)) (by rfl) (by rfl) (idxMethod_ok kc.methods 61 [cMethod y] (methB y.name) (by have := (hS kc (List.mem_of_getElem? hkc)).2.1; omega) (fun o _ m => class2_ok o y m)) ?_
      refine runk_exec zm30q12 ?_
      obtain ⟨hf1, hf2⟩ := fits_of (y := y) (l := kc.methods)
      by_cases hneg : idxB (methB y.name) kc.methods < 0
      ·have hd : decide ((0 : Int) ≤ idxB (methB y.name) kc.methods) = false := by simp; omega
       refine WI.seq ?_
       refine WI.regionDK tab_ok 0 follows_mixed (by kernel_rfl) (by decide) (by kernel_rfl) ?_
       refine runk_exec zm30q11 ?_
       refine WI.cond rfl (fun h => by cases h) (fun _ => ?_)
       repeat (first | refine WI.seq ?_ | refine WI.block ?_ | refine WI.skip ?_ | refine WI.exit ?_ | refine WI.region tab_ok 0 (by decide) (by kernel_rfl) (exec_run zm30q12) ?_)
       refine ⟨q + 1, ⟨hlt, ?_⟩, by omega, ?_⟩
       ·rw [List.take_add_one, hy, List.all_append, hfit]; simp [hf1 hneg]
       simp only [fullM, memC]
       refine le_mk ?sle ?mle ?swf ?mwf hkeepL (by rfl)
       case swf => repeat (first | exact swf_top _ | refine swf_upd ?_ zm30q27)
       case mwf => repeat (first | exact mwf_nil _ | refine mwf_upd ?_ zm30q26)
       case mle => repeat (first | exact mle_nil _ | exact mle_refl _ | refine mle_upd ?_ zm30q1)
       case sle => repeat (first | exact sle_top _ | exact sle_refl _ | refine sle_upd ?_ zm30q3)
      ·have hge : (0 : Int) ≤ idxB (methB y.name) kc.methods := by omega
       have hd : decide ((0 : Int) ≤ idxB (methB y.name) kc.methods) = true := by simp; omega
       obtain ⟨o, ho⟩ : ∃ o, kc.methods[(idxB (methB y.name) kc.methods).toNat]? = some o := by
        obtain ⟨o, ho, -⟩ := idxB_spec (methB y.name) kc.methods hge
        exact ⟨o, ho⟩
       refine WI.seq ?_
       refine WI.regionDK tab_ok 0 follows_mixed (by kernel_rfl) (by decide) (by kernel_rfl) ?_
       refine runk_split 9 zm30q4 ?_
       refine runk_call rfl rfl rfl rfl rfl (by simp) cw2 (alike_ok y o _) ?_
       refine runk_exec zm30q12 ?_
       refine WI.cond rfl ?_ ?_
       ·intro hal
        repeat (first | refine WI.seq ?_ | refine WI.block ?_ | refine WI.skip ?_ | refine WI.exit ?_ | refine WI.region tab_ok 0 (by decide) (by kernel_rfl) (exec_run zm30q12) ?_)
        refine WI.ret ⟨fun j => j, memC cs mn c false (fieldsUp cs ((upX cs (cs.length + 1) 0 c.name).take (k + 1))), Le.toT ?_, hG _, fun b => ⟨.inr rfl, .inr ⟨b, 1002, rfl, rfl, rfl, ?_⟩⟩⟩
        ·simp only [fullM, memC]
         refine le_mk ?sle ?mle ?swf ?mwf (fun j hj => fullM_keep (hG _) hj) (by rfl)
         case swf => repeat (first | exact swf_top _ | refine swf_upd ?_ zm30q29)
         case mwf => repeat (first | exact mwf_nil _ | refine mwf_upd ?_ zm30q28)
         case mle => repeat (first | exact mle_nil _ | exact mle_refl _ | refine mle_upd ?_ zm30q8)
         case sle => repeat (first | exact sle_top _ | exact sle_refl _ | refine sle_upd ?_ zm30q25)
        ·simp only [Tryz.f29, resA, resOne, toT, fin, doneS, doneM, DID, exb, Nat.reduceAdd, Nat.reduceLeDiff, Nat.reduceEqDiff, Nat.reduceMul, Int.reduceToNat, reduceIte, Int.reduceLE, Int.reduceNeg, memC, slotC]
         rw [bad2 y (List.mem_of_getElem? hy) (by rw [hf2 o ho hge]; simpa using hal)]
       ·intro hal
        repeat (first | refine WI.seq ?_ | refine WI.block ?_ | refine WI.skip ?_ | refine WI.exit ?_ | refine WI.region tab_ok 0 (by decide) (by kernel_rfl) (exec_run zm30q12) ?_)
        refine ⟨q + 1, ⟨hlt, ?_⟩, by omega, ?_⟩
        ·rw [List.take_add_one, hy, List.all_append, hfit]; simp [hf2 o ho hge]; simpa using hal
        simp only [fullM, memC]
        refine le_mk ?sle ?mle ?swf ?mwf hkeepL (by rfl)
        case swf => repeat (first | exact swf_top _ | refine swf_upd ?_ zm30q27)
        case mwf => repeat (first | exact mwf_nil _ | refine mwf_upd ?_ zm30q26)
        case mle => repeat (first | exact mle_nil _ | exact mle_refl _ | refine mle_upd ?_ zm30q1)
        case sle => repeat (first | exact sle_top _ | exact sle_refl _ | refine sle_upd ?_ zm30q3)
     ·intro hge
      simp only [decide_eq_false_iff_not, Int.ofNat_lt] at hge
      obtain rfl : q = c.methods.length := by omega
      repeat (first | refine WI.seq ?_ | refine WI.block ?_ | refine WI.skip ?_ | refine WI.exit ?_ | refine WI.region tab_ok 0 (by decide) (by kernel_rfl) (exec_run zm30q12) ?_)
      rw [List.take_length] at hfit
      refine ⟨good hfit, fun j => j, Le.toT ?_⟩
      simp only [fullM, memC]
      refine le_mk ?sle ?mle ?swf ?mwf (fun j hj => fullM_keep (hG _) hj) (by rfl)
      case swf => repeat (first | exact swf_top _ | refine swf_upd ?_ zm30q29)
      case mwf => repeat (first | exact mwf_nil _ | refine mwf_upd ?_ zm30q28)
      case mle => repeat (first | exact mle_nil _ | exact mle_refl _ | refine mle_upd ?_ zm30q8)
      case sle => repeat (first | exact sle_top _ | exact sle_refl _ | refine sle_upd ?_ zm30q25)
 case done =>
  intro hAll b
  rw [List.take_length] at hAll ⊢
  have hcl := (hS c hc)
  have hmN : ∀ l : List Method, (l.map (·.name)).length = l.length := fun l => by simp
  repeat (first | refine W.seq ?_ | refine W.block ?_ | refine W.skip ?_ | refine W.exit ?_ | refine W.g ?_ (by simp only [exb, Nat.reduceAdd, Nat.reduceLeDiff, Nat.reduceEqDiff, Nat.reduceMul, Int.reduceToNat, reduceIte, Int.reduceLE, Int.reduceNeg, doneS, doneM, DID, memC, slotC, cClass]; rfl))
  refine W.newArr 6 60 9 1 rfl rfl ?_
  refine W.loop (ι := Nat) (fun q => ⟨upd (upd (upd (upd (upd (upd (doneS (fun _ => .top) b 1002) 4 (.ptr 4 0)) 5 (.ptr 5 0)) 6 (.own 60)) 67 (.c (.sl (c.methods.map cMethod)))) 68 (.c (.int .i64 c.methods.length))) 69 (.c (.int .i64 q)),
   upd (doneM (memC cs mn c false (fieldsUp cs (upX cs (cs.length + 1) 0 c.name))) 1002) 60 (some (.arr 9 1 (((c.methods.take q).map (·.name)).map cStr)))⟩) (fun q => q ≤ c.methods.length ∧ (c.methods.take q).all (fun m => onceB (namesL m.params)) = true) (fun q => c.methods.length - q) 0 ?start ⟨Nat.zero_le _, rfl⟩ ?round
  case start =>
   simp only [doneS, doneM, memC, DID]
   refine le_mk ?sle ?mle ?swf ?mwf (kept_not hkeep) (by rfl)
   case swf => repeat (first | exact swf_top _ | refine swf_upd ?_ (by simp [A.ids, upd_app, cClass, List.take_zero]))
   case mwf => repeat (first | exact mwf_nil _ | refine mwf_upd ?_ (by simp [A.ids, O.ids, upd_app, cClass, List.take_zero]))
   case mle => repeat (first | exact mle_nil _ | exact mle_refl _ | refine mle_upd ?_ (by first | rfl | (simp only [upd_app, killM_app, O.kill, A.kill, Nat.reduceEqDiff, reduceIte, Option.map_some, Option.map_none, List.map_cons, List.map_nil, cClass, List.take_zero]; done)))
   case sle => repeat (first | exact sle_top _ | exact sle_refl _ | refine sle_upd ?_ (by first | rfl | (simp only [upd_app, killS_app, A.kill, entry_zero, entry_succ, Nat.reduceEqDiff, reduceIte, cClass, List.take_zero]; done)))
  case round =>
   rintro q ⟨hq, hon⟩
   repeat (first | refine W.seq ?_ | refine W.block ?_ | refine W.skip ?_ | refine W.exit ?_ | refine W.g ?_ zm30q10)
   refine W.cond rfl ?_ ?_
   ·intro hlt
    simp only [decide_eq_true_eq, Int.ofNat_lt] at hlt
    obtain ⟨y, hy⟩ : ∃ y, c.methods[q]? = some y := ⟨_, List.getElem?_eq_getElem hlt⟩
    have hyp := hcl.2.2 y (List.mem_of_getElem? hy)
    repeat (first | refine W.seq ?_ | refine W.block ?_ | refine W.skip ?_ | refine W.exit ?_ | refine W.g ?_ (by simp only [exb, Nat.reduceAdd, Nat.reduceLeDiff, Nat.reduceEqDiff, Nat.reduceMul, Int.reduceToNat, reduceIte, Int.reduceLE, Int.reduceNeg, doneS, doneM, DID, memC, cClass, at_map hy, cMethod]; rfl))
    refine W.regionK tab_ok 0 (by decide) ?_
    refine runk_split 4 zm30q10 ?_
    refine runk_append tab_ok 60 rfl rfl rfl rfl rfl rfl rfl rfl (by first | rfl | (simp only [exb, Nat.reduceAdd, Nat.reduceLeDiff, Nat.reduceEqDiff, Nat.reduceMul, Int.reduceToNat, reduceIte, Int.reduceLE, Int.reduceNeg, doneS, doneM, DID, memC, cClass]; rfl)) rfl rfl rfl rfl (nokeep hkeep) (by simp) (by have h1 := List.length_take_le q c.methods; simp only [List.length_map, List.length_cons, List.length_nil]; omega) (by decide) ?_
    refine runk_exec zm30q10 ?_
    refine W.seq ?_
    refine W.regionK tab_ok 0 (by decide) ?_
    refine runk_split 2 zm30q10 ?_
    refine runk_call rfl rfl rfl rfl rfl (by simp) cw1 (namesS_ok y.params (by omega) _) ?_
    refine runk_split 0 zm30q10 ?_
    refine runk_call rfl rfl rfl rfl rfl (by simp) cw1 (once_ok (namesL y.params) (by simp [namesL]; omega) _) ?_
    refine runk_exec zm30q10 ?_
    refine W.cond rfl ?_ ?_
    ·intro hb
     repeat (first | refine W.seq ?_ | refine W.block ?_ | refine W.skip ?_ | refine W.exit ?_ | refine W.g ?_ zm30q10)
     refine W.ret ⟨.inr rfl, .inr ⟨b, 1002, rfl, rfl, rfl, ?_⟩⟩
     simp only [Tryz.f29, resA, resOne, toT, fin, doneS, doneM, DID, exb, Nat.reduceAdd, Nat.reduceLeDiff, Nat.reduceEqDiff, Nat.reduceMul, Int.reduceToNat, reduceIte, Int.reduceLE, Int.reduceNeg, memC]
     have : okClassB cs c = false := by
      unfold okClassB
      have : (c.methods.all fun m => onceB (namesL m.params)) = false := by
       rw [List.all_eq_false]
       exact ⟨y, List.mem_of_getElem? hy, by simpa using hb⟩
      rw [this]; simp
     rw [this]
    ·intro hb
     repeat (first | refine W.seq ?_ | refine W.block ?_ | refine W.skip ?_ | refine W.exit ?_ | refine W.g ?_ zm30q10)
     refine ⟨q + 1, ⟨hlt, ?_⟩, by omega, ?_⟩
     ·rw [List.take_add_one, hy, List.all_append, hon]; simpa using hb
     simp only [doneS, doneM, memC, DID]
     refine le_mk ?sle ?mle ?swf ?mwf (kept_not hkeep) (by rfl)
     case swf => repeat (first | exact swf_top _ | refine swf_upd ?_ (by simp [A.ids, upd_app, cClass, wrap_succ (show q + 1 < 9223372036854775808 by omega), List.take_add_one, hy, Option.toList_some, List.map_append, cStr]))
     case mwf => repeat (first | exact mwf_nil _ | refine mwf_upd ?_ (by simp [A.ids, O.ids, upd_app, cClass, wrap_succ (show q + 1 < 9223372036854775808 by omega), List.take_add_one, hy, Option.toList_some, List.map_append, cStr]))
     case mle => repeat (first | exact mle_nil _ | exact mle_refl _ | refine mle_upd ?_ (by first | rfl | (simp only [upd_app, killM_app, O.kill, A.kill, Nat.reduceEqDiff, reduceIte, Option.map_some, Option.map_none, List.map_cons, List.map_nil, cClass, wrap_succ (show q + 1 < 9223372036854775808 by omega), List.take_add_one, hy, Option.toList_some, List.map_append, cStr]; done)))
     case sle => repeat (first | exact sle_top _ | exact sle_refl _ | refine sle_upd ?_ (by first | rfl | (simp only [upd_app, killS_app, A.kill, entry_zero, entry_succ, Nat.reduceEqDiff, reduceIte, cClass, wrap_succ (show q + 1 < 9223372036854775808 by omega), List.take_add_one, hy, Option.toList_some, List.map_append, cStr]; done)))
   ·intro hge
    simp only [decide_eq_false_iff_not, Int.ofNat_lt] at hge
    obtain rfl : q = c.methods.length := by omega
    rw [List.take_length] at hon
    have hfl := fieldsUp_len hS (upX cs (cs.length + 1) 0 c.name)
    have hul := upX_len cs (cs.length + 1) 0 c.name
    have hval : okClassB cs c = (onceB (fieldsUp cs (upX cs (cs.length + 1) 0 c.name)) && onceB (c.methods.map (·.name))) := by
     unfold okClassB
     rw [hAll, hon]; simp
    repeat (first | refine W.seq ?_ | refine W.block ?_ | refine W.skip ?_ | refine W.exit ?_ | refine W.g ?_ zm30q10)
    refine W.regionK tab_ok 0 (by decide) ?_
    refine runk_split 1 zm30q10 ?_
    refine runk_call rfl rfl rfl rfl rfl (by simp) (cvs_cons (cv_own rfl) cvs_nil) (once_ok (fieldsUp cs (upX cs (cs.length + 1) 0 c.name)) (by omega) _) ?_
    cases h1 : onceB (fieldsUp cs (upX cs (cs.length + 1) 0 c.name)) with
    | false =>
      refine runk_exec zm30q10 ?_
      refine W.ret ⟨.inr rfl, .inr ⟨b, 1002, rfl, rfl, rfl, ?_⟩⟩
      simp only [Tryz.f29, resA, resOne, toT, fin, doneS, doneM, DID, exb, Nat.reduceAdd, Nat.reduceLeDiff, Nat.reduceEqDiff, Nat.reduceMul, Int.reduceToNat, reduceIte, Int.reduceLE, Int.reduceNeg, memC]
      rw [hval, h1]; rfl
    | true =>
      refine runk_split 2 (by simp only [exb, Nat.reduceAdd, Nat.reduceLeDiff, Nat.reduceEqDiff, Nat.reduceMul, Int.reduceToNat, reduceIte, Int.reduceLE, Int.reduceNeg, doneS, doneM, DID, memC, cClass, List.take_length]; rfl) ?_
      refine runk_call rfl rfl rfl rfl rfl (by simp) (cvs_cons (cv_own rfl) cvs_nil) (once_ok (c.methods.map (·.name)) (by simp; omega) _) ?_
      refine runk_exec zm30q10 ?_
      refine W.ret ⟨.inr rfl, .inr ⟨b, 1002, rfl, rfl, rfl, ?_⟩⟩
      simp only [Tryz.f29, resA, resOne, toT, fin, doneS, doneM, DID, exb, Nat.reduceAdd, Nat.reduceLeDiff, Nat.reduceEqDiff, Nat.reduceMul, Int.reduceToNat, reduceIte, Int.reduceLE, Int.reduceNeg, memC]
      rw [hval, h1]; rfl
end V
end Go.Proofs.YthhpcjoaogmhbaaGreatDoor
end
