/- Joined by my own program, in build order: Exprs. -/
import Derived.Test.YtbmbmcdaabhgnaaDoorA8
set_option linter.unusedVariables false
set_option linter.unusedSimpArgs false
section
namespace Go.Proofs.YtbmbmcdaabhgnaaDoor
open Go.RowKit
def exprTop (x : Expr) : Bool :=
  (shapeOf x.kind).2 && decide ((shapeOf x.kind).1.least ≤ x.kids.length) && decide ((x.kids.length : Int) ≤ (shapeOf x.kind).1.most) && decide (0 ≤ x.num) && decide (x.num ≤ (shapeOf x.kind).1.num) &&
    (if (shapeOf x.kind).1.name then isNameB x.name else x.name.data.toList.isEmpty)
mutual
def exprB : Expr → Bool | ⟨k, n, nm, kids⟩ => exprTop ⟨k, n, nm, kids⟩ && exprsB kids
def exprsB : List Expr → Bool | [] => true | x :: r => exprB x && exprsB r
end
theorem exprsB_all : ∀ l : List Expr, exprsB l = l.all exprB
  | [] => rfl
  | x :: r => by simp [exprsB, exprsB_all r]
theorem exprB_eq (x : Expr) : exprB x = (exprTop x && x.kids.all exprB) := by
  cases x; simp [exprB, exprsB_all]
theorem exprTop_eq (x : Expr) : exprTop x = ((shapeOf x.kind).2 && decide ((shapeOf x.kind).1.least ≤ x.kids.length) && decide ((x.kids.length : Int) ≤ (shapeOf x.kind).1.most) && decide (0 ≤ x.num) && decide (x.num ≤ (shapeOf x.kind).1.num) &&
    (if (shapeOf x.kind).1.name then isNameB x.name else x.name.data.toList.isEmpty)) := rfl
theorem expr1_any (w : World) (k n : Int) (s : ByteArray) (a : Option Addr) (m cap : Nat) (p : Bool) (h : ∀ W, Below w.heap.size w W → Calls Tryd.prog 15 #[.agg #[.int .i64 k, .int .i64 n, .string s, .slice a m cap]] W fun e w' => e = .returned (.bool p) ∧ Below W.heap.size W w') :
    Calls Tryd.prog 38 #[.agg #[.int .i64 k, .int .i64 n, .string s, .slice a m cap]] w fun e w' => e = .returned (.bool (!p)) ∧ Below w.heap.size w w' := by
  have H := Lib.hid h
  clear h
  go_enter Tryd.func38, Tryd.ntmps38
  go_wp2_with fail
  refine (H.out _ (by go_grown)).mono ?_
  rintro e w' ⟨rfl, hb⟩
  have HB : Hid (Below w.heap.size w w') := afterCall (by go_grown) hb
  clear hb
  go_wp2
  go_ret
  exact ⟨rfl, HB.out⟩
theorem expr_any (d : Nat) : ∀ (w : World) (cs : List Value) (x : Expr), HasMax w → RExpr d w (· < w.heap.size) cs x →
    Calls Tryd.prog 15 #[.agg cs.toArray] w fun e w' => e = .returned (.bool (exprB x)) ∧ Below w.heap.size w w' := by
  induction d using Nat.strongRecOn with
  | ind d ih =>
    intro w cs x hM hx
    obtain ⟨d', a', n', cap', hd, rfl, wk, wn, ws, hk⟩ := hx.inv
    have HM := Lib.hid hM
    have HK := Lib.hid hk
    have IH := Lib.hid ih
    have HT := Lib.hid (exprB_eq x)
    have HTT := Lib.hid (exprTop_eq x)
    obtain ⟨_, _, _, heq, hlen, _, hmx, _⟩ := HK.out
    cases heq
    unfold maxC at hmx
    have hg : ∀ args W, (callFunc 38 args).run Tryd.prog W = .ok (.enter 38 args) W := fun _ _ => by kernel_rfl
    have HG := Lib.hid hg
    have HL := Lib.hid hlen
    clear hM hk ih hx hg hlen
    go_enter Tryd.func15, Tryd.ntmps15
    go_wp2_with fail
    refine (of_any _ _).mono ?_
    rintro e w1 ⟨rfl, hb1⟩
    have HB1 : Hid (Below w.heap.size w w1) := afterCall (by go_grown) hb1
    have k0 : w1.cell? ⟨w.heap.size, 0, none⟩ = some (.int .i64 x.kind) := (hb1.cell (by simp)).trans (by simp)
    have k1 : w1.cell? ⟨w.heap.size, 1, none⟩ = some (.int .i64 x.num) := (hb1.cell (by simp)).trans (by simp)
    have k2 : w1.cell? ⟨w.heap.size, 2, none⟩ = some (.string x.name) := (hb1.cell (by simp)).trans (by simp)
    have k3 : w1.cell? ⟨w.heap.size, 3, none⟩ = some (.slice a' n' cap') := (hb1.cell (by simp)).trans (by simp)
    have hsz : w.heap.size < w1.heap.size := cell_lt k0
    clear hb1
    generalize shapeOf x.kind = so at *
    obtain ⟨⟨s0, s1, s2, s3, s4, s5⟩, ok⟩ := so
    simp only [Shape.val]
    go_wp2_with (first
      | (go_at_call 33; refine (name_in (HM.out.keep (HB1.out.alloc HB1.out.size _)) _ ws).mono ?_; rintro e w' ⟨rfl, rfl⟩))
    all_goals first
      | (go_ret
         refine ⟨ret_bool ?_, HB1.out.alloc HB1.out.size _⟩
         rw [HT.out, HTT.out, HL.out]
         simp [*]
         done)
      | (go_ret
         refine ⟨ret_bool ?_, HB1.out.alloc HB1.out.size _⟩
         rw [HT.out, HTT.out, HL.out]
         try (have hz := ‹(!x.name.toList.isEmpty) = true›; simp at hz)
         simp [*, ← Lib.toList_data]
         done)
      | (go_ret
         refine ⟨ret_bool ?_, HB1.out.alloc HB1.out.size _⟩
         rw [HT.out, HTT.out, HL.out]
         try (have hz := ‹(!x.name.toList.isEmpty) = true›; simp at hz)
         simp [*, ← Lib.toList_data]
         omega)
      | (have HTOP : Hid (exprTop x = true) := by
           show exprTop x = true
           rw [HTT.out, HL.out]
           try (have hz := ‹(!x.name.toList.isEmpty) = false›; simp at hz)
           simp [*, ← Lib.toList_data]
           try omega
         clear HTT
         have HB2 : Hid (∀ X, Below w.heap.size w (w1.alloc X)) := fun X => HB1.out.alloc HB1.out.size X
         refine (containsExprs_any (RExpr d' (w1.alloc _) (· < (w1.alloc _).heap.size)) x.kids (fun x => !exprB x) 38 _ _ HG.out ?_ (HK.out.mono (fun k hk => ?_) (fun k hk => ?_)) ?_).mono ?_
         · intro cs y hy; obtain ⟨_, _, _, _, _, rfl, _⟩ := hy.inv; rfl
         · exact Nat.lt_of_lt_of_le hk (HB2.out _).size
         · exact (HB2.out _).block k hk
         · intro W cs y hb hy hr
           obtain ⟨_, _, _, _, _, rfl, _⟩ := hr.inv
           refine expr1_any W _ _ _ _ _ _ _ (fun W' hb' => ?_)
           have hb2 : Below (w1.alloc _).heap.size (w1.alloc _) W' := hb.trans (hb'.mono hb.size)
           exact IH.out d' hd W' _ y ((HM.out.keep (HB2.out _)).keep hb2) (hr.mono (fun k hk => Nat.lt_of_lt_of_le hk hb2.size) (fun k hk => hb2.block k hk))
         rintro e w2 ⟨rfl, hb2⟩
         have HB3 : Hid (Below w.heap.size w w2) := afterCall (HB2.out _) hb2
         clear hb2
         go_wp2
         go_ret
         refine ⟨ret_bool ?_, HB3.out⟩
         rw [HT.out, HTOP.out, List.all_eq_not_any_not]
         simp)
end Go.Proofs.YtbmbmcdaabhgnaaDoor
end
