/- Joined by my own program, in build order: MayS, Check, CheckR, Index, OwnG, Names1, Once, Alike, Up, Round, Closures. -/
import Derived.Test.YthhpcjoaogmhbaaZ1
import Derived.Test.YthhpcjoaogmhbaaChecked
import Derived.WalkKit
import Derived.ProofKit
import Derived.Laws.AppendOwn
import Derived.Deep.AppendLies
import Derived.OwnWalk
import Derived.Deep.OwnRows
import Derived.Maps.OwnOps
import Derived.Maps.OwnSet
import Derived.Maps.Ext
import Derived.Carry
import Derived.RangeFuncNested
import Derived.RangeFuncBound
import Derived.RangeFuncCalls
import Derived.RangeFuncLeaves
import Derived.Shelf.Abstract
import Derived.Shelf.RegionOpen
import Derived.OwnWalkIn
import Derived.TacticsInMore
import Derived.LoopNIn
import Derived.LoopIn
import Derived.OrdersIn
import Derived.OrdersHeld
import Derived.TacticsIn
import Derived.Deep.Quiet
set_option linter.unusedVariables false
set_option linter.unusedSimpArgs false
section
namespace Go.Proofs.Ythhpcjoaogmhbaa
open Go.RowKit
theorem stmts_any (d : Nat) (w : World) (v : Value) (l : List Stmt) (hM : HasMax w) (h : RStmts d w (· < w.heap.size) v l) :
    Calls Try.prog 30 #[v] w fun e w' => e = .returned (.bool (l.all stmtB)) ∧ Below w.heap.size w w' := stmts_of d (stmt_any d) w v l hM h
theorem rexprs_1 (w : World) : Calls Try.prog 83 #[.int .i64 1] w fun e w' => e = .returned (.tuple #[.int .i64 (exprsOf 1).1, .int .i64 (exprsOf 1).2]) ∧ w = w' := by
  go_enter Try.func83, Try.ntmps83
  go_wp2
  go_ret2
  exact ⟨rfl, rfl⟩
theorem rexprs_2 (w : World) : Calls Try.prog 83 #[.int .i64 2] w fun e w' => e = .returned (.tuple #[.int .i64 (exprsOf 2).1, .int .i64 (exprsOf 2).2]) ∧ w = w' := by
  go_enter Try.func83, Try.ntmps83
  go_wp2
  go_ret2
  exact ⟨rfl, rfl⟩
theorem rexprs_3 (w : World) : Calls Try.prog 83 #[.int .i64 3] w fun e w' => e = .returned (.tuple #[.int .i64 (exprsOf 3).1, .int .i64 (exprsOf 3).2]) ∧ w = w' := by
  go_enter Try.func83, Try.ntmps83
  go_wp2
  go_ret2
  exact ⟨rfl, rfl⟩
theorem rexprs_4 (w : World) : Calls Try.prog 83 #[.int .i64 4] w fun e w' => e = .returned (.tuple #[.int .i64 (exprsOf 4).1, .int .i64 (exprsOf 4).2]) ∧ w = w' := by
  go_enter Try.func83, Try.ntmps83
  go_wp2
  go_ret2
  exact ⟨rfl, rfl⟩
theorem rexprs_5 (w : World) : Calls Try.prog 83 #[.int .i64 5] w fun e w' => e = .returned (.tuple #[.int .i64 (exprsOf 5).1, .int .i64 (exprsOf 5).2]) ∧ w = w' := by
  go_enter Try.func83, Try.ntmps83
  go_wp2
  go_ret2
  exact ⟨rfl, rfl⟩
theorem rexprs_6 (w : World) : Calls Try.prog 83 #[.int .i64 6] w fun e w' => e = .returned (.tuple #[.int .i64 (exprsOf 6).1, .int .i64 (exprsOf 6).2]) ∧ w = w' := by
  go_enter Try.func83, Try.ntmps83
  go_wp2
  go_ret2
  exact ⟨rfl, rfl⟩
theorem rexprs_7 (w : World) : Calls Try.prog 83 #[.int .i64 7] w fun e w' => e = .returned (.tuple #[.int .i64 (exprsOf 7).1, .int .i64 (exprsOf 7).2]) ∧ w = w' := by
  go_enter Try.func83, Try.ntmps83
  go_wp2
  go_ret2
  exact ⟨rfl, rfl⟩
theorem rexprs_any (k : Int) (w : World) : Calls Try.prog 83 #[.int .i64 k] w fun e w' => e = .returned (.tuple #[.int .i64 (exprsOf k).1, .int .i64 (exprsOf k).2]) ∧ w = w' := by
  by_cases hk : 1 ≤ k ∧ k ≤ 7
  · have hc : k = 1 ∨ k = 2 ∨ k = 3 ∨ k = 4 ∨ k = 5 ∨ k = 6 ∨ k = 7 := by omega
    rcases hc with rfl | rfl | rfl | rfl | rfl | rfl | rfl
    · exact rexprs_1 w
    · exact rexprs_2 w
    · exact rexprs_3 w
    · exact rexprs_4 w
    · exact rexprs_5 w
    · exact rexprs_6 w
    · exact rexprs_7 w
  · have H : Hid (exprsOf k = (-1, -1)) := by
      show exprsOf k = _
      unfold exprsOf; rw [if_neg (by omega), if_neg (by omega), if_neg (by omega)]
    have h1 : (k == 1) = false := by simp; omega
    have h2 : (k == 2) = false := by simp; omega
    have h3 : (k == 3) = false := by simp; omega
    have h4 : (k == 4) = false := by simp; omega
    have h5 : (k == 5) = false := by simp; omega
    have h6 : (k == 6) = false := by simp; omega
    have h7 : (k == 7) = false := by simp; omega
    clear hk
    go_enter Try.func83, Try.ntmps83
    go_wp2
    go_ret2
    rw [H.out]
    exact ⟨rfl, rfl⟩
set_option maxHeartbeats 2000000 in
theorem shape_any (w : World) (kind num : Int) (type name : ByteArray) (es : List Expr) (th el : List Stmt) (a1 a2 a3 : Option Addr) (n1 n2 n3 cap1 cap2 cap3 : Nat) (wt : type.size ≤ maxS) (ws : name.size ≤ maxS)
    (h1 : es.length = n1) (h2 : th.length = n2) (h3 : el.length = n3) :
    Calls Try.prog 70 #[.agg #[.int .i64 kind, .int .i64 num, .string type, .string name, .slice a1 n1 cap1, .slice a2 n2 cap2, .slice a3 n3 cap3]] w fun e w' => e = .returned (.bool (stmtTop ⟨kind, num, type, name, es, th, el⟩)) ∧ Below w.heap.size w w' := by
  have hKC : ∀ w : World, Calls Try.prog 83 #[.int .i64 kind] w fun e w' => e = .returned (.tuple #[.int .i64 (exprsOf kind).1, .int .i64 (exprsOf kind).2]) ∧ w = w' := rexprs_any kind
  generalize hKO : exprsOf kind = ko at hKC
  obtain ⟨lo, hi⟩ := ko
  have HKC := Lib.hid hKC
  clear hKC
  have e2 : th.isEmpty = (n2 == 0) := by rw [← h2]; cases th <;> simp
  have e3 : el.isEmpty = (n3 == 0) := by rw [← h3]; cases el <;> simp
  by_cases k1 : kind = 1
  · have HC : Hid (stmtTop ⟨kind, num, type, name, es, th, el⟩ = (decide (0 ≤ lo) && decide (lo ≤ (n1 : Int)) && decide ((n1 : Int) ≤ hi) && (isTypeB type && isNameB name) && num == 0 && n2 == 0 && n3 == 0)) := by
      show stmtTop _ = _
      simp only [stmtTop, hKO, h1, e2, e3]
      simp [k1]
    have t1 : (kind == 1) = true := by simp [k1]
    have t3 : (kind == 3) = false := by simp [k1]
    have t4 : (kind == 4) = false := by simp [k1]
    have t5 : (kind == 5) = false := by simp [k1]
    have t5' : (kind != 5) = true := by simp [k1]
    clear k1 hKO
    go_enter Try.func70, Try.ntmps70
    go_wp2_with (first
      | (go_at_call 83; refine (HKC.out _).mono ?_; rintro e w' ⟨rfl, rfl⟩)
      | (go_at_call 46; refine (refType_any _ wt _).mono ?_; rintro e w' ⟨rfl, rfl⟩)
      | (go_at_call 44; refine (refIsName_any _ ws _).mono ?_; rintro e w' ⟨rfl, rfl⟩))
    all_goals go_ret
    all_goals refine ⟨ret_bool ?_, by go_grown⟩
    all_goals rw [HC.out]
    all_goals clear HC HKC
    all_goals simp_all
    all_goals first | done | (intros; omega) | (intros; simp_all; done) | (rw [Bool.eq_iff_iff]; simp; done)
  by_cases k3 : kind = 3
  · have HC : Hid (stmtTop ⟨kind, num, type, name, es, th, el⟩ = (decide (0 ≤ lo) && decide (lo ≤ (n1 : Int)) && decide ((n1 : Int) ≤ hi) && (type.toList.isEmpty && name.toList.isEmpty) && num == 0)) := by
      show stmtTop _ = _
      simp only [stmtTop, hKO, h1, e2, e3]
      simp [k3]
    have t1 : (kind == 1) = false := by simp [k3]
    have t3 : (kind == 3) = true := by simp [k3]
    have t4 : (kind == 4) = false := by simp [k3]
    have t5 : (kind == 5) = false := by simp [k3]
    have t5' : (kind != 5) = true := by simp [k3]
    clear k3 hKO
    go_enter Try.func70, Try.ntmps70
    go_wp2_with (first
      | (go_at_call 83; refine (HKC.out _).mono ?_; rintro e w' ⟨rfl, rfl⟩)
      | (go_at_call 46; refine (refType_any _ wt _).mono ?_; rintro e w' ⟨rfl, rfl⟩)
      | (go_at_call 44; refine (refIsName_any _ ws _).mono ?_; rintro e w' ⟨rfl, rfl⟩))
    all_goals go_ret
    all_goals refine ⟨ret_bool ?_, by go_grown⟩
    all_goals rw [HC.out]
    all_goals clear HC HKC
    all_goals simp_all
    all_goals first | done | (intros; omega) | (intros; simp_all; done) | (rw [Bool.eq_iff_iff]; simp; done)
  by_cases k4 : kind = 4
  · have HC : Hid (stmtTop ⟨kind, num, type, name, es, th, el⟩ = (decide (0 ≤ lo) && decide (lo ≤ (n1 : Int)) && decide ((n1 : Int) ≤ hi) && (type.toList.isEmpty && name.toList.isEmpty) && num == 0 && n3 == 0)) := by
      show stmtTop _ = _
      simp only [stmtTop, hKO, h1, e2, e3]
      simp [k4]
    have t1 : (kind == 1) = false := by simp [k4]
    have t3 : (kind == 3) = false := by simp [k4]
    have t4 : (kind == 4) = true := by simp [k4]
    have t5 : (kind == 5) = false := by simp [k4]
    have t5' : (kind != 5) = true := by simp [k4]
    clear k4 hKO
    go_enter Try.func70, Try.ntmps70
    go_wp2_with (first
      | (go_at_call 83; refine (HKC.out _).mono ?_; rintro e w' ⟨rfl, rfl⟩)
      | (go_at_call 46; refine (refType_any _ wt _).mono ?_; rintro e w' ⟨rfl, rfl⟩)
      | (go_at_call 44; refine (refIsName_any _ ws _).mono ?_; rintro e w' ⟨rfl, rfl⟩))
    all_goals go_ret
    all_goals refine ⟨ret_bool ?_, by go_grown⟩
    all_goals rw [HC.out]
    all_goals clear HC HKC
    all_goals simp_all
    all_goals first | done | (intros; omega) | (intros; simp_all; done) | (rw [Bool.eq_iff_iff]; simp; done)
  by_cases k5 : kind = 5
  · have HC : Hid (stmtTop ⟨kind, num, type, name, es, th, el⟩ = (decide (0 ≤ lo) && decide (lo ≤ (n1 : Int)) && decide ((n1 : Int) ≤ hi) && (type.toList.isEmpty && name.toList.isEmpty) && (decide (0 ≤ num) && decide (num ≤ 99)) && n2 == 0 && n3 == 0)) := by
      show stmtTop _ = _
      simp only [stmtTop, hKO, h1, e2, e3]
      simp [k5]
    have t1 : (kind == 1) = false := by simp [k5]
    have t3 : (kind == 3) = false := by simp [k5]
    have t4 : (kind == 4) = false := by simp [k5]
    have t5 : (kind == 5) = true := by simp [k5]
    have t5' : (kind != 5) = false := by simp [k5]
    clear k5 hKO
    go_enter Try.func70, Try.ntmps70
    go_wp2_with (first
      | (go_at_call 83; refine (HKC.out _).mono ?_; rintro e w' ⟨rfl, rfl⟩)
      | (go_at_call 46; refine (refType_any _ wt _).mono ?_; rintro e w' ⟨rfl, rfl⟩)
      | (go_at_call 44; refine (refIsName_any _ ws _).mono ?_; rintro e w' ⟨rfl, rfl⟩))
    all_goals go_ret
    all_goals refine ⟨ret_bool ?_, by go_grown⟩
    all_goals rw [HC.out]
    all_goals clear HC HKC
    all_goals simp_all
    all_goals first | done | (intros; omega) | (intros; simp_all; done) | (rw [Bool.eq_iff_iff]; simp; done)
  have HC : Hid (stmtTop ⟨kind, num, type, name, es, th, el⟩ = (decide (0 ≤ lo) && decide (lo ≤ (n1 : Int)) && decide ((n1 : Int) ≤ hi) && (type.toList.isEmpty && name.toList.isEmpty) && num == 0 && n2 == 0 && n3 == 0)) := by
    show stmtTop _ = _
    simp only [stmtTop, hKO, h1, e2, e3]
    have b3 : (kind == 3) = false := by simp; exact k3
    have b4 : (kind == 4) = false := by simp; exact k4
    rw [b3, b4, if_neg k1, if_neg k5]
    simp
  have t1 : (kind == 1) = false := by simp; assumption
  have t3 : (kind == 3) = false := by simp; assumption
  have t4 : (kind == 4) = false := by simp; assumption
  have t5 : (kind == 5) = false := by simp; assumption
  have t5' : (kind != 5) = true := by simp; assumption
  clear k1 k3 k4 k5 hKO
  go_enter Try.func70, Try.ntmps70
  go_wp2_with (first
    | (go_at_call 83; refine (HKC.out _).mono ?_; rintro e w' ⟨rfl, rfl⟩)
    | (go_at_call 46; refine (refType_any _ wt _).mono ?_; rintro e w' ⟨rfl, rfl⟩)
    | (go_at_call 44; refine (refIsName_any _ ws _).mono ?_; rintro e w' ⟨rfl, rfl⟩))
  all_goals go_ret
  all_goals refine ⟨ret_bool ?_, by go_grown⟩
  all_goals rw [HC.out]
  all_goals clear HC HKC
  all_goals simp_all
  all_goals first | done | (intros; omega) | (intros; simp_all; done) | (rw [Bool.eq_iff_iff]; simp; done)
set_option maxHeartbeats 4000000 in
theorem mayStmts_any (d : Nat) : ∀ (w : World) (v : Value) (l : List Stmt), RStmts d w (· < w.heap.size) v l →
    Calls Try.prog 47 #[v] w fun e w' => e = .returned (.bool (l.all stmtB)) ∧ Below w.heap.size w w' := by
  induction d using Nat.strongRecOn with
  | ind d ih =>
    intro w v l ⟨a, n, cap, hv, hn, hcap, hmax, hel⟩
    subst hv
    have H := Lib.hid hel
    have IH := Lib.hid ih
    have HN := Lib.hid hn
    unfold maxC at hmax
    clear hel ih hn
    go_enter Try.func47, Try.ntmps47
    go_wp2
    go_loopw [10] (fun v10 w' => ∃ j : Nat, j ≤ n ∧ v10 = .int .i64 j ∧ Hid (l.all stmtB = (l.drop j).all stmtB) ∧ Hid (Below w.heap.size w w')) (fun v10 _ => n - (intOf v10).toNat)
    case atStart => exact ⟨0, by omega, rfl, rfl, Below.refl _ _⟩
    case round =>
      obtain ⟨j, hj, rfl, HP, HB⟩ := hrel
      by_cases hlt : j < n
      · obtain ⟨x, hx⟩ : ∃ x, l[j]? = some x := ⟨_, List.getElem?_eq_getElem (by rw [HN.out]; exact hlt)⟩
        have HXJ := Lib.hid hx
        clear hx
        obtain ⟨b, off, cs, rfl, hbl, hc, hr⟩ := H.out j _ HXJ.out
        obtain ⟨d', a1, n1, cap1, a2, n2, cap2, a3, n3, cap3, hd, rfl, -, -, wt, ws, h4, h5, h6⟩ := hr.inv
        obtain ⟨c0, c1, c2, c3, c4, c5, c6, -⟩ := cellsAt_of_block (HB.out.block b hbl) hc
        have HD : Hid (l.drop j = x :: l.drop (j + 1)) := drop_of_getElem? HXJ.out
        have HT := Lib.hid (stmtB_eq x)
        have HE := Lib.hid h4
        have H5 := Lib.hid h5
        have H6 := Lib.hid h6
        obtain ⟨_, _, _, heq, hl1, hx1, hm1, hel⟩ := h4
        cases heq
        have HL1 := Lib.hid hl1
        have HL2 : Hid (x.thn.length = n2) := by obtain ⟨_, _, _, heq, hl2, _⟩ := h5; cases heq; exact hl2
        have HL3 : Hid (x.els.length = n3) := by obtain ⟨_, _, _, heq, hl3, _⟩ := h6; cases heq; exact hl3
        have HEL := Lib.hid hel
        unfold maxC at hm1
        clear h5 h6 hc hr hl1 hel
        have HSH : Hid (∀ W : World, Calls Try.prog 70 #[.agg #[.int .i64 x.kind, .int .i64 x.num, .string x.type, .string x.name, .slice a1 n1 cap1, .slice a2 n2 cap2, .slice a3 n3 cap3]] W fun e w' => e = .returned (.bool (stmtTop x)) ∧ Below W.heap.size W w') :=
          fun W => shape_any W x.kind x.num x.type x.name x.exprs x.thn x.els a1 a2 a3 n1 n2 n3 cap1 cap2 cap3 wt ws HL1.out HL2.out HL3.out
        obtain ⟨wo, rfl⟩ : ∃ wo : World, wo = wr := ⟨_, rfl⟩
        go_wp2_with fail
        refine (HSH.out _).mono ?_
        rintro e w1 ⟨rfl, hb1⟩
        have HB1 : Hid (Below w.heap.size w w1) := afterCall (HB.out.alloc HB.out.size _) hb1
        have q0 : w1.cell? ⟨wo.heap.size, 0, none⟩ = some (.int .i64 x.kind) := (hb1.cell (by simp)).trans (by simp)
        have q4 : w1.cell? ⟨wo.heap.size, 4, none⟩ = some (.slice a1 n1 cap1) := (hb1.cell (by simp)).trans (by simp)
        have q5 : w1.cell? ⟨wo.heap.size, 5, none⟩ = some (.slice a2 n2 cap2) := (hb1.cell (by simp)).trans (by simp)
        have q6 : w1.cell? ⟨wo.heap.size, 6, none⟩ = some (.slice a3 n3 cap3) := (hb1.cell (by simp)).trans (by simp)
        clear hb1 c0 c1 c2 c3 c4 c5 c6
        cases htop : stmtTop x with
        | false =>
          go_wp2
          go_ret
          exact ⟨ret_bool (by rw [HP.out, HD.out, List.all_cons, HT.out, htop]; simp), HB1.out⟩
        | true =>
          have HTOP : Hid (stmtTop x = true) := htop
          go_wp2
          clear htop
          go_loopw [20] (fun v20 w' => ∃ k : Nat, k ≤ n1 ∧ v20 = .int .i64 k ∧ Hid (x.exprs.all exprB = (x.exprs.drop k).all exprB) ∧ Hid (Below w.heap.size w w') ∧ w'.cell? ⟨wo.heap.size, 0, none⟩ = some (.int .i64 x.kind) ∧
            w'.cell? ⟨wo.heap.size, 4, none⟩ = some (.slice a1 n1 cap1) ∧ w'.cell? ⟨wo.heap.size, 5, none⟩ = some (.slice a2 n2 cap2) ∧ w'.cell? ⟨wo.heap.size, 6, none⟩ = some (.slice a3 n3 cap3)) (fun v20 _ => n1 - (intOf v20).toNat)
          case atStart => exact ⟨0, by omega, rfl, rfl, HB1, q0, q4, q5, q6⟩
          case round =>
            clear q0 q4 q5 q6 HB1
            obtain ⟨k, hk, rfl, HPE, HB2, q0, q4, q5, q6⟩ := hrel
            by_cases hlt2 : k < n1
            · obtain ⟨y, hy⟩ : ∃ y, x.exprs[k]? = some y := ⟨_, List.getElem?_eq_getElem (by rw [HL1.out]; exact hlt2)⟩
              have HY := Lib.hid hy
              clear hy
              obtain ⟨b', off', cs', rfl, hbl', hc, hr⟩ := HEL.out k _ HY.out
              obtain ⟨_, a7, n7, cap7, _, rfl, -⟩ := hr.inv
              have HR := Lib.hid hr
              obtain ⟨c0, c1, c2, c3, -⟩ := cellsAt_of_block (HB2.out.block b' hbl') hc
              have HDE : Hid (x.exprs.drop k = y :: x.exprs.drop (k + 1)) := drop_of_getElem? HY.out
              have HBA : Hid (∀ X, Below w.heap.size w (wr.alloc X)) := fun X => HB2.out.alloc HB2.out.size X
              have p0 := fun X => next (w2 := wr.alloc X) (by go_grown) q0
              have p4 := fun X => next (w2 := wr.alloc X) (by go_grown) q4
              have p5 := fun X => next (w2 := wr.alloc X) (by go_grown) q5
              have p6 := fun X => next (w2 := wr.alloc X) (by go_grown) q6
              clear hc hr q0 q4 q5 q6
              go_wp2_with fail
              (with_reducible refine (mayExpr_any d' _ [_, _, _, _] y (HR.out.mono ?_ ?_)).mono ?_)
              · exact fun k hk => Nat.lt_of_lt_of_le hk (HBA.out _).size
              · exact fun k hk => (HBA.out _).block k hk
              rintro e w2 ⟨rfl, hb2⟩
              have HB3 : Hid (Below w.heap.size w w2) := afterCall (HBA.out _) hb2
              have r0 := next (o := 0) hb2 (p0 _)
              have r4 := next (o := 4) hb2 (p4 _)
              have r5 := next (o := 5) hb2 (p5 _)
              have r6 := next (o := 6) hb2 (p6 _)
              clear hb2 p0 p4 p5 p6
              cases hq : exprB y with
              | false =>
                go_wp2
                go_ret
                exact ⟨ret_bool (by rw [HP.out, HD.out, List.all_cons, HT.out, HPE.out, HDE.out]; simp [hq]), HB3.out⟩
              | true =>
                have HP2 : Hid (x.exprs.all exprB = (x.exprs.drop (k + 1)).all exprB) := by
                  show x.exprs.all exprB = (x.exprs.drop (k + 1)).all exprB
                  rw [HPE.out, HDE.out]; simp [hq]
                go_wp2
                refine ⟨?_, by simp [intOf]; omega⟩
                first
                  | exact ⟨k + 1, by omega, by go_num, HP2, HB3, r0, r4, r5, r6⟩
                  | ((repeat apply Exists.intro)
                     refine ⟨⟨k + 1, by omega, ?_, HP2, HB3, r0, r4, r5, r6⟩, rfl⟩
                     go_num)
            · obtain rfl : k = n1 := by omega
              have HX : Hid (x.exprs.all exprB = true) := by
                show x.exprs.all exprB = true
                rw [HPE.out, List.drop_of_length_le (by rw [HL1.out]; exact Nat.le_refl _)]; rfl
              obtain ⟨w3, hw3⟩ : ∃ w3, w3 = wr := ⟨_, rfl⟩
              subst hw3
              have HB3 := HB2
              clear HPE HB2
              by_cases k2 : x.kind = 2
              · have t2 : (x.kind == 2) = true := by simp [k2]
                have HK : Hid (x.kind = 2) := k2
                have hk1 : 1 ≤ k := by
                  have h0 := HTOP.out
                  unfold stmtTop exprsOf at h0
                  rw [k2, HL1.out] at h0
                  simp at h0
                  omega
                clear k2
                obtain ⟨y, hy⟩ : ∃ y, x.exprs[0]? = some y := ⟨_, List.getElem?_eq_getElem (by rw [HL1.out]; omega)⟩
                have HF0 : Hid (firstB x = isPlace y.kind) := by show firstB x = _; rw [first_of hy]; simp [HK.out]
                obtain ⟨b1, off1, cs1, rfl, hbl1, hc1, hr1⟩ := HEL.out 0 _ hy
                obtain ⟨_, _, _, _, _, rfl, -⟩ := hr1.inv
                obtain ⟨c0, -⟩ := cellsAt_of_block (HB3.out.block b1 hbl1) hc1
                have c0' : w3.cell? ⟨b1, off1, none⟩ = some (.int .i64 y.kind) := by simpa using c0
                clear c0 hc1 hr1 hy
                have HPL : Hid (isPlace y.kind = (y.kind == 4 || y.kind == 7 || y.kind == 8)) := rfl
                by_cases p4 : y.kind = 4
                · have HF : Hid (firstB x = true) := by show firstB x = true; rw [HF0.out, HPL.out, p4]; rfl
                  have e4 : (y.kind != 4) = false := by simp [p4]
                  clear p4
                  go_wp2_with fail
                  refine (IH.out d' hd w3 _ x.thn (H5.out.mono (fun k hk => Nat.lt_of_lt_of_le hk HB3.out.size) (fun k hk => HB3.out.block k hk))).mono ?_
                  rintro e w4 ⟨rfl, hb4⟩
                  have HB4 := nextB hb4 HB3
                  have r6 := next (o := 6) hb4 q6
                  clear hb4 q4 q5 q6 q0
                  cases hth : x.thn.all stmtB with
                  | false =>
                    go_wp2
                    go_ret
                    exact ⟨ret_bool (by rw [HP.out, HD.out, List.all_cons, HT.out, hth]; simp), HB4.out⟩
                  | true =>
                    go_wp2_with fail
                    refine (IH.out d' hd w4 _ x.els (H6.out.mono (fun k hk => Nat.lt_of_lt_of_le hk HB4.out.size) (fun k hk => HB4.out.block k hk))).mono ?_
                    rintro e w5 ⟨rfl, hb5⟩
                    have HB5 := nextB hb5 HB4
                    clear hb5 r6
                    cases hel : x.els.all stmtB with
                    | false =>
                      go_wp2
                      go_ret
                      exact ⟨ret_bool (by rw [HP.out, HD.out, List.all_cons, HT.out, hel]; simp), HB5.out⟩
                    | true =>
                      have HP2 : Hid (l.all stmtB = (l.drop (j + 1)).all stmtB) := by
                        show l.all stmtB = (l.drop (j + 1)).all stmtB
                        rw [HP.out, HD.out, List.all_cons, HT.out, HTOP.out, HX.out, HF.out, hth, hel]; simp
                      go_wp2
                      refine ⟨?_, by simp [intOf]; omega⟩
                      first
                        | exact ⟨j + 1, by omega, by go_num, HP2, HB5⟩
                        | ((repeat apply Exists.intro)
                           refine ⟨⟨j + 1, by omega, ?_, HP2, HB5⟩, rfl⟩
                           go_num)
                have e4 : (y.kind != 4) = true := by simp [p4]
                by_cases p7 : y.kind = 7
                · have HF : Hid (firstB x = true) := by show firstB x = true; rw [HF0.out, HPL.out, p7]; rfl
                  have e7 : (y.kind != 7) = false := by simp [p7]
                  clear p4 p7
                  go_wp2_with fail
                  refine (IH.out d' hd w3 _ x.thn (H5.out.mono (fun k hk => Nat.lt_of_lt_of_le hk HB3.out.size) (fun k hk => HB3.out.block k hk))).mono ?_
                  rintro e w4 ⟨rfl, hb4⟩
                  have HB4 := nextB hb4 HB3
                  have r6 := next (o := 6) hb4 q6
                  clear hb4 q4 q5 q6 q0
                  cases hth : x.thn.all stmtB with
                  | false =>
                    go_wp2
                    go_ret
                    exact ⟨ret_bool (by rw [HP.out, HD.out, List.all_cons, HT.out, hth]; simp), HB4.out⟩
                  | true =>
                    go_wp2_with fail
                    refine (IH.out d' hd w4 _ x.els (H6.out.mono (fun k hk => Nat.lt_of_lt_of_le hk HB4.out.size) (fun k hk => HB4.out.block k hk))).mono ?_
                    rintro e w5 ⟨rfl, hb5⟩
                    have HB5 := nextB hb5 HB4
                    clear hb5 r6
                    cases hel : x.els.all stmtB with
                    | false =>
                      go_wp2
                      go_ret
                      exact ⟨ret_bool (by rw [HP.out, HD.out, List.all_cons, HT.out, hel]; simp), HB5.out⟩
                    | true =>
                      have HP2 : Hid (l.all stmtB = (l.drop (j + 1)).all stmtB) := by
                        show l.all stmtB = (l.drop (j + 1)).all stmtB
                        rw [HP.out, HD.out, List.all_cons, HT.out, HTOP.out, HX.out, HF.out, hth, hel]; simp
                      go_wp2
                      refine ⟨?_, by simp [intOf]; omega⟩
                      first
                        | exact ⟨j + 1, by omega, by go_num, HP2, HB5⟩
                        | ((repeat apply Exists.intro)
                           refine ⟨⟨j + 1, by omega, ?_, HP2, HB5⟩, rfl⟩
                           go_num)
                have e7 : (y.kind != 7) = true := by simp [p7]
                by_cases p8 : y.kind = 8
                · have HF : Hid (firstB x = true) := by show firstB x = true; rw [HF0.out, HPL.out, p8]; rfl
                  have e8 : (y.kind != 8) = false := by simp [p8]
                  clear p4 p7 p8
                  go_wp2_with fail
                  refine (IH.out d' hd w3 _ x.thn (H5.out.mono (fun k hk => Nat.lt_of_lt_of_le hk HB3.out.size) (fun k hk => HB3.out.block k hk))).mono ?_
                  rintro e w4 ⟨rfl, hb4⟩
                  have HB4 := nextB hb4 HB3
                  have r6 := next (o := 6) hb4 q6
                  clear hb4 q4 q5 q6 q0
                  cases hth : x.thn.all stmtB with
                  | false =>
                    go_wp2
                    go_ret
                    exact ⟨ret_bool (by rw [HP.out, HD.out, List.all_cons, HT.out, hth]; simp), HB4.out⟩
                  | true =>
                    go_wp2_with fail
                    refine (IH.out d' hd w4 _ x.els (H6.out.mono (fun k hk => Nat.lt_of_lt_of_le hk HB4.out.size) (fun k hk => HB4.out.block k hk))).mono ?_
                    rintro e w5 ⟨rfl, hb5⟩
                    have HB5 := nextB hb5 HB4
                    clear hb5 r6
                    cases hel : x.els.all stmtB with
                    | false =>
                      go_wp2
                      go_ret
                      exact ⟨ret_bool (by rw [HP.out, HD.out, List.all_cons, HT.out, hel]; simp), HB5.out⟩
                    | true =>
                      have HP2 : Hid (l.all stmtB = (l.drop (j + 1)).all stmtB) := by
                        show l.all stmtB = (l.drop (j + 1)).all stmtB
                        rw [HP.out, HD.out, List.all_cons, HT.out, HTOP.out, HX.out, HF.out, hth, hel]; simp
                      go_wp2
                      refine ⟨?_, by simp [intOf]; omega⟩
                      first
                        | exact ⟨j + 1, by omega, by go_num, HP2, HB5⟩
                        | ((repeat apply Exists.intro)
                           refine ⟨⟨j + 1, by omega, ?_, HP2, HB5⟩, rfl⟩
                           go_num)
                have e8 : (y.kind != 8) = true := by simp [p8]
                have HF : Hid (firstB x = false) := by show firstB x = false; rw [HF0.out, HPL.out]; simp; omega
                clear p4 p7 p8
                go_wp2
                go_ret
                exact ⟨ret_bool (by rw [HP.out, HD.out, List.all_cons, HT.out, HF.out]; simp), HB3.out⟩
              have t2 : (x.kind == 2) = false := by simp [k2]
              by_cases k7 : x.kind = 7
              · have t7 : (x.kind == 7) = true := by simp [k7]
                have HK : Hid (x.kind = 7) := k7
                have hk1 : 1 ≤ k := by
                  have h0 := HTOP.out
                  unfold stmtTop exprsOf at h0
                  rw [k7, HL1.out] at h0
                  simp at h0
                  omega
                clear k2 k7
                obtain ⟨y, hy⟩ : ∃ y, x.exprs[0]? = some y := ⟨_, List.getElem?_eq_getElem (by rw [HL1.out]; omega)⟩
                have HF0 : Hid (firstB x = (y.kind == 10)) := by show firstB x = _; rw [first_of hy]; simp [HK.out]
                obtain ⟨b1, off1, cs1, rfl, hbl1, hc1, hr1⟩ := HEL.out 0 _ hy
                obtain ⟨_, _, _, _, _, rfl, -⟩ := hr1.inv
                obtain ⟨c0, -⟩ := cellsAt_of_block (HB3.out.block b1 hbl1) hc1
                have c0' : w3.cell? ⟨b1, off1, none⟩ = some (.int .i64 y.kind) := by simpa using c0
                clear c0 hc1 hr1 hy
                by_cases p10 : y.kind = 10
                · have HF : Hid (firstB x = true) := by show firstB x = true; rw [HF0.out, p10]; rfl
                  have e10 : (y.kind != 10) = false := by simp [p10]
                  clear p10
                  go_wp2_with fail
                  refine (IH.out d' hd w3 _ x.thn (H5.out.mono (fun k hk => Nat.lt_of_lt_of_le hk HB3.out.size) (fun k hk => HB3.out.block k hk))).mono ?_
                  rintro e w4 ⟨rfl, hb4⟩
                  have HB4 := nextB hb4 HB3
                  have r6 := next (o := 6) hb4 q6
                  clear hb4 q4 q5 q6 q0
                  cases hth : x.thn.all stmtB with
                  | false =>
                    go_wp2
                    go_ret
                    exact ⟨ret_bool (by rw [HP.out, HD.out, List.all_cons, HT.out, hth]; simp), HB4.out⟩
                  | true =>
                    go_wp2_with fail
                    refine (IH.out d' hd w4 _ x.els (H6.out.mono (fun k hk => Nat.lt_of_lt_of_le hk HB4.out.size) (fun k hk => HB4.out.block k hk))).mono ?_
                    rintro e w5 ⟨rfl, hb5⟩
                    have HB5 := nextB hb5 HB4
                    clear hb5 r6
                    cases hel : x.els.all stmtB with
                    | false =>
                      go_wp2
                      go_ret
                      exact ⟨ret_bool (by rw [HP.out, HD.out, List.all_cons, HT.out, hel]; simp), HB5.out⟩
                    | true =>
                      have HP2 : Hid (l.all stmtB = (l.drop (j + 1)).all stmtB) := by
                        show l.all stmtB = (l.drop (j + 1)).all stmtB
                        rw [HP.out, HD.out, List.all_cons, HT.out, HTOP.out, HX.out, HF.out, hth, hel]; simp
                      go_wp2
                      refine ⟨?_, by simp [intOf]; omega⟩
                      first
                        | exact ⟨j + 1, by omega, by go_num, HP2, HB5⟩
                        | ((repeat apply Exists.intro)
                           refine ⟨⟨j + 1, by omega, ?_, HP2, HB5⟩, rfl⟩
                           go_num)
                have e10 : (y.kind != 10) = true := by simp [p10]
                have HF : Hid (firstB x = false) := by show firstB x = false; rw [HF0.out]; simp; exact p10
                clear p10
                go_wp2
                go_ret
                exact ⟨ret_bool (by rw [HP.out, HD.out, List.all_cons, HT.out, HF.out]; simp), HB3.out⟩
              have t7 : (x.kind == 7) = false := by simp [k7]
              have HF : Hid (firstB x = true) := by
                show firstB x = true
                unfold firstB
                cases x.exprs with
                | nil => rfl
                | cons e r => simp only []; rw [if_neg k2, if_neg k7]
              clear k2 k7
              go_wp2_with fail
              refine (IH.out d' hd w3 _ x.thn (H5.out.mono (fun k hk => Nat.lt_of_lt_of_le hk HB3.out.size) (fun k hk => HB3.out.block k hk))).mono ?_
              rintro e w4 ⟨rfl, hb4⟩
              have HB4 := nextB hb4 HB3
              have r6 := next (o := 6) hb4 q6
              clear hb4 q4 q5 q6 q0
              cases hth : x.thn.all stmtB with
              | false =>
                go_wp2
                go_ret
                exact ⟨ret_bool (by rw [HP.out, HD.out, List.all_cons, HT.out, hth]; simp), HB4.out⟩
              | true =>
                go_wp2_with fail
                refine (IH.out d' hd w4 _ x.els (H6.out.mono (fun k hk => Nat.lt_of_lt_of_le hk HB4.out.size) (fun k hk => HB4.out.block k hk))).mono ?_
                rintro e w5 ⟨rfl, hb5⟩
                have HB5 := nextB hb5 HB4
                clear hb5 r6
                cases hel : x.els.all stmtB with
                | false =>
                  go_wp2
                  go_ret
                  exact ⟨ret_bool (by rw [HP.out, HD.out, List.all_cons, HT.out, hel]; simp), HB5.out⟩
                | true =>
                  have HP2 : Hid (l.all stmtB = (l.drop (j + 1)).all stmtB) := by
                    show l.all stmtB = (l.drop (j + 1)).all stmtB
                    rw [HP.out, HD.out, List.all_cons, HT.out, HTOP.out, HX.out, HF.out, hth, hel]; simp
                  go_wp2
                  refine ⟨?_, by simp [intOf]; omega⟩
                  first
                    | exact ⟨j + 1, by omega, by go_num, HP2, HB5⟩
                    | ((repeat apply Exists.intro)
                       refine ⟨⟨j + 1, by omega, ?_, HP2, HB5⟩, rfl⟩
                       go_num)
      · obtain rfl : j = n := by omega
        have HE : Hid (l.drop j = []) := List.drop_of_length_le (by rw [HN.out]; exact Nat.le_refl _)
        go_wp2
        go_ret
        exact ⟨ret_bool (by rw [HP.out, HE.out]; rfl), HB.out⟩
end Go.Proofs.Ythhpcjoaogmhbaa
end
section
namespace Go.Proofs.Ythhpcjoaogmhbaa
open Go.RowKit
def methodB (m : Method) : Bool := slotB ⟨m.type, m.name⟩ && decide (m.params.length ≤ 4) && m.params.all slotB && m.body.all stmtB
def classTop (c : Class) : Bool := isNameB c.name && (c.super.toList.isEmpty || isNameB c.super) && c.fields.all slotB
def classB (c : Class) : Bool := classTop c && c.methods.all methodB
def checkB (p : Program) : Bool := p.main.all stmtB && p.classes.all classB
def treeErr (b : Bool) : Int := match b with | true => 0 | false => 30
theorem all_take_succ {α : Type} {l : List α} {p : α → Bool} {k : Nat} {y : α} (h : l[k]? = some y) : (l.take (k + 1)).all p = ((l.take k).all p && p y) := by
  rw [List.take_add_one, h, List.all_append]; simp
set_option maxHeartbeats 8000000 in
theorem check_any (d : Nat) (w : World) (v : Value) (p : Program) (hM : HasMax w) (hp : RProgram d w (· < w.heap.size) v p) :
    Calls Try.prog 13 #[v] w fun e w' => e = .returned (.int .i64 (treeErr (checkB p))) ∧ Below w.heap.size w w' := by
  obtain ⟨cv, mv, rfl, hC, hS⟩ := hp
  obtain ⟨ca, cn, ccap, rfl, hn, hcap, hmax, hel⟩ := hC
  obtain ⟨ma, mn, mcap, rfl⟩ := RSl.shape hS
  have H := Lib.hid hel
  have HN := Lib.hid hn
  have HS := Lib.hid hS
  have HM := Lib.hid hM
  unfold maxC at hmax
  clear hel hn hS hM
  go_enter Try.func13, Try.ntmps13
  go_wp2_with fail
  refine (stmts_any d _ _ p.main (HM.out.keep (by go_grown)) (HS.out.mono (fun k hk => by simp; omega) (fun k hk => by rw [Below.heap_alloc _ _ _ hk]))).mono ?_
  rintro e w1 ⟨rfl, hb1⟩
  have HB1 : Hid (Below w.heap.size w w1) := afterCall (by go_grown) hb1
  have k0 : w1.cell? ⟨w.heap.size, 0, none⟩ = some (.slice ca cn ccap) := by rw [hb1.cell (by simp)]; simp
  clear hb1
  go_wp2
  go_loopw [3, 14] (fun v3 v14 w' => ∃ j : Nat, j ≤ cn ∧ v14 = .int .i64 j ∧ (∃ g : Bool, v3 = .bool g ∧ Hid (g = (p.main.all stmtB && (p.classes.take j).all classB))) ∧ Hid (Below w.heap.size w w')) (fun _ v14 _ => cn - (intOf v14).toNat)
  case atStart => exact ⟨0, by omega, rfl, ⟨_, rfl, by show _ = _; simp⟩, HB1⟩
  case round =>
    obtain ⟨j, hj, rfl, ⟨g, rfl, HGJ⟩, HB⟩ := hrel
    by_cases hlt : j < cn
    · obtain ⟨x, hx⟩ : ∃ x, p.classes[j]? = some x := ⟨_, List.getElem?_eq_getElem (by rw [HN.out]; exact hlt)⟩
      have HX := Lib.hid hx
      clear hx
      obtain ⟨b, off, cs, rfl, hbl, hc, fv, mv, rfl, wn, wu, hf, hm⟩ := H.out j _ HX.out
      have HF := Lib.hid hf
      obtain ⟨fa, fn, fcap, rfl⟩ := RSl.shape hf
      obtain ⟨a, n, cap, rfl, hn, hcap1, hmax1, hel⟩ := hm
      obtain ⟨c0, c1, c2, c3, -⟩ := cellsAt_of_block (HB.out.block b hbl) hc
      have H2 := Lib.hid hel
      have HN2 := Lib.hid hn
      unfold maxC at hmax1
      clear hel hn hf hc
      obtain ⟨wo, rfl⟩ : ∃ wo : World, wo = wr := ⟨_, rfl⟩
      obtain ⟨G, hGD⟩ : ∃ G, G = (p.main.all stmtB && (p.classes.take j).all classB && classTop x) := ⟨_, rfl⟩
      have HGD := Lib.hid hGD
      clear hGD
      cases g with
      | false =>
        have HG : Hid (G = false) := by show G = false; rw [HGD.out, ← HGJ.out]; rfl
        have HBI : Hid (∀ X, Hid (Below w.heap.size w (wo.alloc X))) := fun X => HB.out.alloc HB.out.size X
        have HBI := HBI.out
        go_wp2
        go_loopw [3, 42] (fun v3 v42 w' => ∃ k : Nat, k ≤ n ∧ v42 = .int .i64 k ∧ (∃ gk : Bool, v3 = .bool gk ∧ Hid (gk = (G && (x.methods.take k).all methodB))) ∧ Hid (Below w.heap.size w w')) (fun _ v42 _ => n - (intOf v42).toNat)
        case atStart => exact ⟨0, by omega, rfl, ⟨false, rfl, by show false = _; rw [HG.out]; simp⟩, HBI _⟩
        case round =>
          obtain ⟨k, hk, rfl, ⟨gk, rfl, HGK⟩, HBR⟩ := hrel
          by_cases hlt2 : k < n
          · obtain ⟨y, hy⟩ : ∃ y, x.methods[k]? = some y := ⟨_, List.getElem?_eq_getElem (by rw [HN2.out]; exact hlt2)⟩
            have HY := Lib.hid hy
            clear hy
            obtain ⟨b', off', cs', rfl, hbl', hc, pv, bv, rfl, wt, ws, hpv, hbv⟩ := H2.out k _ HY.out
            have HPV := Lib.hid hpv
            have HBV := Lib.hid hbv
            obtain ⟨pa, pn, pcap, rfl, hpn, hpc, hpm, -⟩ := hpv
            obtain ⟨ba, bn, bcap, rfl⟩ := RSl.shape hbv
            obtain ⟨e0, e1, e2, e3, -⟩ := cellsAt_of_block (HBR.out.block b' hbl') hc
            have HPN := Lib.hid hpn
            unfold maxC at hpm
            clear hbv hc hpn
            cases gk with
            | false =>
              have HBE : Hid (∀ X, Below w.heap.size w (wr.alloc X)) := fun X => HBR.out.alloc HBR.out.size X
              have HGN : Hid (false = (G && (x.methods.take (k + 1)).all methodB)) := by
                show false = _
                rw [all_take_succ HY.out, ← Bool.and_assoc, ← HGK.out]; rfl
              go_wp2
              refine ⟨?_, by simp [intOf]; omega⟩
              first
                | exact ⟨k + 1, by omega, by go_num, ⟨false, rfl, HGN⟩, HBE.out _⟩
                | ((repeat apply Exists.intro)
                   refine ⟨⟨k + 1, by omega, ?_, ⟨false, rfl, HGN⟩, HBE.out _⟩, rfl⟩
                   go_num)
            | true =>
              have HBA : Hid (∀ X, Below w.heap.size w (wr.alloc X)) := fun X => HBR.out.alloc HBR.out.size X
              go_wp2_with fail
              refine (slot_any _ _ wt ws _ (HM.out.keep (HBA.out _))).mono ?_
              rintro e w1 ⟨rfl, hb1⟩
              have HBE : Hid (Below w.heap.size w w1) := afterCall (HBA.out _) hb1
              have q2 : w1.cell? ⟨wr.heap.size, 2, none⟩ = some (.slice pa pn pcap) := (hb1.cell (by simp)).trans (by simp)
              have q3 : w1.cell? ⟨wr.heap.size, 3, none⟩ = some (.slice ba bn bcap) := (hb1.cell (by simp)).trans (by simp)
              clear hb1 e0 e1 e2 e3 HBA
              cases h1 : slotB ⟨y.type, y.name⟩ with
              | false =>
                have HGN : Hid (false = (G && (x.methods.take (k + 1)).all methodB)) := by
                  show false = _
                  rw [all_take_succ HY.out, ← Bool.and_assoc, ← HGK.out]
                  simp [methodB, *]
                go_wp2
                refine ⟨?_, by simp [intOf]; omega⟩
                first
                  | exact ⟨k + 1, by omega, by go_num, ⟨false, rfl, HGN⟩, HBE⟩
                  | ((repeat apply Exists.intro)
                     refine ⟨⟨k + 1, by omega, ?_, ⟨false, rfl, HGN⟩, HBE⟩, rfl⟩
                     go_num)
              | true =>
                by_cases hp4 : pn ≤ 4
                · have h2 : decide (y.params.length ≤ 4) = true := by rw [HPN.out]; simp [hp4]
                  have H2' := Lib.hid h2
                  clear h2
                  go_wp2_with fail
                  refine (slots_any w1 (HM.out.keep HBE.out) _ y.params (HPV.out.mono (fun k hk => Nat.lt_of_lt_of_le hk HBE.out.size) (fun k hk => HBE.out.block k hk))).mono ?_
                  rintro e w2 ⟨rfl, hb2⟩
                  have HBE1 := HBE
                  clear HBE
                  have HBE := nextB hb2 HBE1
                  have r3 := next (o := 3) hb2 q3
                  clear hb2 q2 q3 HBE1
                  cases h3 : y.params.all slotB with
                  | false =>
                    have h2 := H2'.out
                    have HGN : Hid (false = (G && (x.methods.take (k + 1)).all methodB)) := by
                      show false = _
                      rw [all_take_succ HY.out, ← Bool.and_assoc, ← HGK.out]
                      simp [methodB, *]
                    go_wp2
                    refine ⟨?_, by simp [intOf]; omega⟩
                    first
                      | exact ⟨k + 1, by omega, by go_num, ⟨false, rfl, HGN⟩, HBE⟩
                      | ((repeat apply Exists.intro)
                         refine ⟨⟨k + 1, by omega, ?_, ⟨false, rfl, HGN⟩, HBE⟩, rfl⟩
                         go_num)
                  | true =>
                    go_wp2_with fail
                    refine (stmts_any d w2 _ y.body (HM.out.keep HBE.out) (HBV.out.mono (fun k hk => Nat.lt_of_lt_of_le hk HBE.out.size) (fun k hk => HBE.out.block k hk))).mono ?_
                    rintro e w3 ⟨rfl, hb3⟩
                    have HBE1 := HBE
                    clear HBE
                    have HBE := nextB hb3 HBE1
                    clear hb3 r3 HBE1
                    cases h4 : y.body.all stmtB with
                    | false =>
                      have h2 := H2'.out
                      have HGN : Hid (false = (G && (x.methods.take (k + 1)).all methodB)) := by
                        show false = _
                        rw [all_take_succ HY.out, ← Bool.and_assoc, ← HGK.out]
                        simp [methodB, *]
                      go_wp2
                      refine ⟨?_, by simp [intOf]; omega⟩
                      first
                        | exact ⟨k + 1, by omega, by go_num, ⟨false, rfl, HGN⟩, HBE⟩
                        | ((repeat apply Exists.intro)
                           refine ⟨⟨k + 1, by omega, ?_, ⟨false, rfl, HGN⟩, HBE⟩, rfl⟩
                           go_num)
                    | true =>
                      have h2 := H2'.out
                      have HGN : Hid (true = (G && (x.methods.take (k + 1)).all methodB)) := by
                        show true = _
                        rw [all_take_succ HY.out, ← Bool.and_assoc, ← HGK.out]
                        simp [methodB, *]
                      go_wp2
                      refine ⟨?_, by simp [intOf]; omega⟩
                      first
                        | exact ⟨k + 1, by omega, by go_num, ⟨true, rfl, HGN⟩, HBE⟩
                        | ((repeat apply Exists.intro)
                           refine ⟨⟨k + 1, by omega, ?_, ⟨true, rfl, HGN⟩, HBE⟩, rfl⟩
                           go_num)
                · have h2 : decide (y.params.length ≤ 4) = false := by rw [HPN.out]; simp; omega
                  have hgt : ¬ pn ≤ 4 := hp4
                  have HGN : Hid (false = (G && (x.methods.take (k + 1)).all methodB)) := by
                    show false = _
                    rw [all_take_succ HY.out, ← Bool.and_assoc, ← HGK.out]
                    simp [methodB, *]
                  go_wp2
                  refine ⟨?_, by simp [intOf]; omega⟩
                  first
                    | exact ⟨k + 1, by omega, by go_num, ⟨false, rfl, HGN⟩, HBE⟩
                    | ((repeat apply Exists.intro)
                       refine ⟨⟨k + 1, by omega, ?_, ⟨false, rfl, HGN⟩, HBE⟩, rfl⟩
                       go_num)
          · obtain rfl : k = n := by omega
            go_wp2
            have et := List.take_of_length_le (l := x.methods) (i := k) (by rw [HN2.out]; exact Nat.le_refl _)
            have HGN : Hid (gk = (p.main.all stmtB && (p.classes.take (j + 1)).all classB)) := by
              show gk = _
              rw [all_take_succ HX.out, HGK.out, et, HGD.out]
              simp [classB, Bool.and_assoc]
            refine ⟨?_, by simp [intOf]; omega⟩
            first
              | exact ⟨j + 1, by omega, by go_num, ⟨gk, rfl, HGN⟩, HBR⟩
              | ((repeat apply Exists.intro)
                 refine ⟨⟨j + 1, by omega, ?_, ⟨gk, rfl, HGN⟩, HBR⟩, rfl⟩
                 go_num)
      | true =>
        have HBA : Hid (∀ X, Below w.heap.size w (wo.alloc X)) := fun X => HB.out.alloc HB.out.size X
        go_wp2_with fail
        refine (name_in (HM.out.keep (HBA.out _)) _ wn).mono ?_
        rintro e w' ⟨rfl, rfl⟩
        cases h1 : isNameB x.name with
        | false =>
          have HG : Hid (G = false) := by show G = false; rw [HGD.out]; simp [classTop, h1]
          go_wp2
          go_loopw [3, 42] (fun v3 v42 w' => ∃ k : Nat, k ≤ n ∧ v42 = .int .i64 k ∧ (∃ gk : Bool, v3 = .bool gk ∧ Hid (gk = (G && (x.methods.take k).all methodB))) ∧ Hid (Below w.heap.size w w')) (fun _ v42 _ => n - (intOf v42).toNat)
          case atStart => exact ⟨0, by omega, rfl, ⟨false, rfl, by show false = _; rw [HG.out]; simp⟩, HBA.out _⟩
          case round =>
            obtain ⟨k, hk, rfl, ⟨gk, rfl, HGK⟩, HBR⟩ := hrel
            by_cases hlt2 : k < n
            · obtain ⟨y, hy⟩ : ∃ y, x.methods[k]? = some y := ⟨_, List.getElem?_eq_getElem (by rw [HN2.out]; exact hlt2)⟩
              have HY := Lib.hid hy
              clear hy
              obtain ⟨b', off', cs', rfl, hbl', hc, pv, bv, rfl, wt, ws, hpv, hbv⟩ := H2.out k _ HY.out
              have HPV := Lib.hid hpv
              have HBV := Lib.hid hbv
              obtain ⟨pa, pn, pcap, rfl, hpn, hpc, hpm, -⟩ := hpv
              obtain ⟨ba, bn, bcap, rfl⟩ := RSl.shape hbv
              obtain ⟨e0, e1, e2, e3, -⟩ := cellsAt_of_block (HBR.out.block b' hbl') hc
              have HPN := Lib.hid hpn
              unfold maxC at hpm
              clear hbv hc hpn
              cases gk with
              | false =>
                have HBE : Hid (∀ X, Below w.heap.size w (wr.alloc X)) := fun X => HBR.out.alloc HBR.out.size X
                have HGN : Hid (false = (G && (x.methods.take (k + 1)).all methodB)) := by
                  show false = _
                  rw [all_take_succ HY.out, ← Bool.and_assoc, ← HGK.out]; rfl
                go_wp2
                refine ⟨?_, by simp [intOf]; omega⟩
                first
                  | exact ⟨k + 1, by omega, by go_num, ⟨false, rfl, HGN⟩, HBE.out _⟩
                  | ((repeat apply Exists.intro)
                     refine ⟨⟨k + 1, by omega, ?_, ⟨false, rfl, HGN⟩, HBE.out _⟩, rfl⟩
                     go_num)
              | true =>
                have HBA : Hid (∀ X, Below w.heap.size w (wr.alloc X)) := fun X => HBR.out.alloc HBR.out.size X
                go_wp2_with fail
                refine (slot_any _ _ wt ws _ (HM.out.keep (HBA.out _))).mono ?_
                rintro e w1 ⟨rfl, hb1⟩
                have HBE : Hid (Below w.heap.size w w1) := afterCall (HBA.out _) hb1
                have q2 : w1.cell? ⟨wr.heap.size, 2, none⟩ = some (.slice pa pn pcap) := (hb1.cell (by simp)).trans (by simp)
                have q3 : w1.cell? ⟨wr.heap.size, 3, none⟩ = some (.slice ba bn bcap) := (hb1.cell (by simp)).trans (by simp)
                clear hb1 e0 e1 e2 e3 HBA
                cases h1 : slotB ⟨y.type, y.name⟩ with
                | false =>
                  have HGN : Hid (false = (G && (x.methods.take (k + 1)).all methodB)) := by
                    show false = _
                    rw [all_take_succ HY.out, ← Bool.and_assoc, ← HGK.out]
                    simp [methodB, *]
                  go_wp2
                  refine ⟨?_, by simp [intOf]; omega⟩
                  first
                    | exact ⟨k + 1, by omega, by go_num, ⟨false, rfl, HGN⟩, HBE⟩
                    | ((repeat apply Exists.intro)
                       refine ⟨⟨k + 1, by omega, ?_, ⟨false, rfl, HGN⟩, HBE⟩, rfl⟩
                       go_num)
                | true =>
                  by_cases hp4 : pn ≤ 4
                  · have h2 : decide (y.params.length ≤ 4) = true := by rw [HPN.out]; simp [hp4]
                    have H2' := Lib.hid h2
                    clear h2
                    go_wp2_with fail
                    refine (slots_any w1 (HM.out.keep HBE.out) _ y.params (HPV.out.mono (fun k hk => Nat.lt_of_lt_of_le hk HBE.out.size) (fun k hk => HBE.out.block k hk))).mono ?_
                    rintro e w2 ⟨rfl, hb2⟩
                    have HBE1 := HBE
                    clear HBE
                    have HBE := nextB hb2 HBE1
                    have r3 := next (o := 3) hb2 q3
                    clear hb2 q2 q3 HBE1
                    cases h3 : y.params.all slotB with
                    | false =>
                      have h2 := H2'.out
                      have HGN : Hid (false = (G && (x.methods.take (k + 1)).all methodB)) := by
                        show false = _
                        rw [all_take_succ HY.out, ← Bool.and_assoc, ← HGK.out]
                        simp [methodB, *]
                      go_wp2
                      refine ⟨?_, by simp [intOf]; omega⟩
                      first
                        | exact ⟨k + 1, by omega, by go_num, ⟨false, rfl, HGN⟩, HBE⟩
                        | ((repeat apply Exists.intro)
                           refine ⟨⟨k + 1, by omega, ?_, ⟨false, rfl, HGN⟩, HBE⟩, rfl⟩
                           go_num)
                    | true =>
                      go_wp2_with fail
                      refine (stmts_any d w2 _ y.body (HM.out.keep HBE.out) (HBV.out.mono (fun k hk => Nat.lt_of_lt_of_le hk HBE.out.size) (fun k hk => HBE.out.block k hk))).mono ?_
                      rintro e w3 ⟨rfl, hb3⟩
                      have HBE1 := HBE
                      clear HBE
                      have HBE := nextB hb3 HBE1
                      clear hb3 r3 HBE1
                      cases h4 : y.body.all stmtB with
                      | false =>
                        have h2 := H2'.out
                        have HGN : Hid (false = (G && (x.methods.take (k + 1)).all methodB)) := by
                          show false = _
                          rw [all_take_succ HY.out, ← Bool.and_assoc, ← HGK.out]
                          simp [methodB, *]
                        go_wp2
                        refine ⟨?_, by simp [intOf]; omega⟩
                        first
                          | exact ⟨k + 1, by omega, by go_num, ⟨false, rfl, HGN⟩, HBE⟩
                          | ((repeat apply Exists.intro)
                             refine ⟨⟨k + 1, by omega, ?_, ⟨false, rfl, HGN⟩, HBE⟩, rfl⟩
                             go_num)
                      | true =>
                        have h2 := H2'.out
                        have HGN : Hid (true = (G && (x.methods.take (k + 1)).all methodB)) := by
                          show true = _
                          rw [all_take_succ HY.out, ← Bool.and_assoc, ← HGK.out]
                          simp [methodB, *]
                        go_wp2
                        refine ⟨?_, by simp [intOf]; omega⟩
                        first
                          | exact ⟨k + 1, by omega, by go_num, ⟨true, rfl, HGN⟩, HBE⟩
                          | ((repeat apply Exists.intro)
                             refine ⟨⟨k + 1, by omega, ?_, ⟨true, rfl, HGN⟩, HBE⟩, rfl⟩
                             go_num)
                  · have h2 : decide (y.params.length ≤ 4) = false := by rw [HPN.out]; simp; omega
                    have hgt : ¬ pn ≤ 4 := hp4
                    have HGN : Hid (false = (G && (x.methods.take (k + 1)).all methodB)) := by
                      show false = _
                      rw [all_take_succ HY.out, ← Bool.and_assoc, ← HGK.out]
                      simp [methodB, *]
                    go_wp2
                    refine ⟨?_, by simp [intOf]; omega⟩
                    first
                      | exact ⟨k + 1, by omega, by go_num, ⟨false, rfl, HGN⟩, HBE⟩
                      | ((repeat apply Exists.intro)
                         refine ⟨⟨k + 1, by omega, ?_, ⟨false, rfl, HGN⟩, HBE⟩, rfl⟩
                         go_num)
            · obtain rfl : k = n := by omega
              go_wp2
              have et := List.take_of_length_le (l := x.methods) (i := k) (by rw [HN2.out]; exact Nat.le_refl _)
              have HGN : Hid (gk = (p.main.all stmtB && (p.classes.take (j + 1)).all classB)) := by
                show gk = _
                rw [all_take_succ HX.out, HGK.out, et, HGD.out]
                simp [classB, Bool.and_assoc]
              refine ⟨?_, by simp [intOf]; omega⟩
              first
                | exact ⟨j + 1, by omega, by go_num, ⟨gk, rfl, HGN⟩, HBR⟩
                | ((repeat apply Exists.intro)
                   refine ⟨⟨j + 1, by omega, ?_, ⟨gk, rfl, HGN⟩, HBR⟩, rfl⟩
                   go_num)
        | true =>
          cases h2 : x.super.toList.isEmpty with
          | true =>
            have h2' : (x.super.toList.isEmpty) = true := h2
            go_wp2_with fail
            refine (slots_any _ (HM.out.keep (HBA.out _)) _ x.fields (HF.out.mono (fun k hk => Nat.lt_of_lt_of_le hk (HBA.out _).size) (fun k hk => (HBA.out _).block k hk))).mono ?_
            rintro e w2 ⟨rfl, hb2⟩
            have HBI : Hid (Below w.heap.size w w2) := afterCall (HBA.out _) hb2
            have q3 : w2.cell? ⟨wo.heap.size, 3, none⟩ = some (.slice a n cap) := (hb2.cell (by simp)).trans (by simp)
            clear hb2
            cases h4 : x.fields.all slotB with
            | false =>
              have HG : Hid (G = false) := by show G = false; rw [HGD.out]; simp [classTop, h4]
              go_wp2
              go_loopw [3, 42] (fun v3 v42 w' => ∃ k : Nat, k ≤ n ∧ v42 = .int .i64 k ∧ (∃ gk : Bool, v3 = .bool gk ∧ Hid (gk = (G && (x.methods.take k).all methodB))) ∧ Hid (Below w.heap.size w w')) (fun _ v42 _ => n - (intOf v42).toNat)
              case atStart => exact ⟨0, by omega, rfl, ⟨false, rfl, by show false = _; rw [HG.out]; simp⟩, HBI⟩
              case round =>
                obtain ⟨k, hk, rfl, ⟨gk, rfl, HGK⟩, HBR⟩ := hrel
                by_cases hlt2 : k < n
                · obtain ⟨y, hy⟩ : ∃ y, x.methods[k]? = some y := ⟨_, List.getElem?_eq_getElem (by rw [HN2.out]; exact hlt2)⟩
                  have HY := Lib.hid hy
                  clear hy
                  obtain ⟨b', off', cs', rfl, hbl', hc, pv, bv, rfl, wt, ws, hpv, hbv⟩ := H2.out k _ HY.out
                  have HPV := Lib.hid hpv
                  have HBV := Lib.hid hbv
                  obtain ⟨pa, pn, pcap, rfl, hpn, hpc, hpm, -⟩ := hpv
                  obtain ⟨ba, bn, bcap, rfl⟩ := RSl.shape hbv
                  obtain ⟨e0, e1, e2, e3, -⟩ := cellsAt_of_block (HBR.out.block b' hbl') hc
                  have HPN := Lib.hid hpn
                  unfold maxC at hpm
                  clear hbv hc hpn
                  cases gk with
                  | false =>
                    have HBE : Hid (∀ X, Below w.heap.size w (wr.alloc X)) := fun X => HBR.out.alloc HBR.out.size X
                    have HGN : Hid (false = (G && (x.methods.take (k + 1)).all methodB)) := by
                      show false = _
                      rw [all_take_succ HY.out, ← Bool.and_assoc, ← HGK.out]; rfl
                    go_wp2
                    refine ⟨?_, by simp [intOf]; omega⟩
                    first
                      | exact ⟨k + 1, by omega, by go_num, ⟨false, rfl, HGN⟩, HBE.out _⟩
                      | ((repeat apply Exists.intro)
                         refine ⟨⟨k + 1, by omega, ?_, ⟨false, rfl, HGN⟩, HBE.out _⟩, rfl⟩
                         go_num)
                  | true =>
                    have HBA : Hid (∀ X, Below w.heap.size w (wr.alloc X)) := fun X => HBR.out.alloc HBR.out.size X
                    go_wp2_with fail
                    refine (slot_any _ _ wt ws _ (HM.out.keep (HBA.out _))).mono ?_
                    rintro e w1 ⟨rfl, hb1⟩
                    have HBE : Hid (Below w.heap.size w w1) := afterCall (HBA.out _) hb1
                    have q2 : w1.cell? ⟨wr.heap.size, 2, none⟩ = some (.slice pa pn pcap) := (hb1.cell (by simp)).trans (by simp)
                    have q3 : w1.cell? ⟨wr.heap.size, 3, none⟩ = some (.slice ba bn bcap) := (hb1.cell (by simp)).trans (by simp)
                    clear hb1 e0 e1 e2 e3 HBA
                    cases h1 : slotB ⟨y.type, y.name⟩ with
                    | false =>
                      have HGN : Hid (false = (G && (x.methods.take (k + 1)).all methodB)) := by
                        show false = _
                        rw [all_take_succ HY.out, ← Bool.and_assoc, ← HGK.out]
                        simp [methodB, *]
                      go_wp2
                      refine ⟨?_, by simp [intOf]; omega⟩
                      first
                        | exact ⟨k + 1, by omega, by go_num, ⟨false, rfl, HGN⟩, HBE⟩
                        | ((repeat apply Exists.intro)
                           refine ⟨⟨k + 1, by omega, ?_, ⟨false, rfl, HGN⟩, HBE⟩, rfl⟩
                           go_num)
                    | true =>
                      by_cases hp4 : pn ≤ 4
                      · have h2 : decide (y.params.length ≤ 4) = true := by rw [HPN.out]; simp [hp4]
                        have H2' := Lib.hid h2
                        clear h2
                        go_wp2_with fail
                        refine (slots_any w1 (HM.out.keep HBE.out) _ y.params (HPV.out.mono (fun k hk => Nat.lt_of_lt_of_le hk HBE.out.size) (fun k hk => HBE.out.block k hk))).mono ?_
                        rintro e w2 ⟨rfl, hb2⟩
                        have HBE1 := HBE
                        clear HBE
                        have HBE := nextB hb2 HBE1
                        have r3 := next (o := 3) hb2 q3
                        clear hb2 q2 q3 HBE1
                        cases h3 : y.params.all slotB with
                        | false =>
                          have h2 := H2'.out
                          have HGN : Hid (false = (G && (x.methods.take (k + 1)).all methodB)) := by
                            show false = _
                            rw [all_take_succ HY.out, ← Bool.and_assoc, ← HGK.out]
                            simp [methodB, *]
                          go_wp2
                          refine ⟨?_, by simp [intOf]; omega⟩
                          first
                            | exact ⟨k + 1, by omega, by go_num, ⟨false, rfl, HGN⟩, HBE⟩
                            | ((repeat apply Exists.intro)
                               refine ⟨⟨k + 1, by omega, ?_, ⟨false, rfl, HGN⟩, HBE⟩, rfl⟩
                               go_num)
                        | true =>
                          go_wp2_with fail
                          refine (stmts_any d w2 _ y.body (HM.out.keep HBE.out) (HBV.out.mono (fun k hk => Nat.lt_of_lt_of_le hk HBE.out.size) (fun k hk => HBE.out.block k hk))).mono ?_
                          rintro e w3 ⟨rfl, hb3⟩
                          have HBE1 := HBE
                          clear HBE
                          have HBE := nextB hb3 HBE1
                          clear hb3 r3 HBE1
                          cases h4 : y.body.all stmtB with
                          | false =>
                            have h2 := H2'.out
                            have HGN : Hid (false = (G && (x.methods.take (k + 1)).all methodB)) := by
                              show false = _
                              rw [all_take_succ HY.out, ← Bool.and_assoc, ← HGK.out]
                              simp [methodB, *]
                            go_wp2
                            refine ⟨?_, by simp [intOf]; omega⟩
                            first
                              | exact ⟨k + 1, by omega, by go_num, ⟨false, rfl, HGN⟩, HBE⟩
                              | ((repeat apply Exists.intro)
                                 refine ⟨⟨k + 1, by omega, ?_, ⟨false, rfl, HGN⟩, HBE⟩, rfl⟩
                                 go_num)
                          | true =>
                            have h2 := H2'.out
                            have HGN : Hid (true = (G && (x.methods.take (k + 1)).all methodB)) := by
                              show true = _
                              rw [all_take_succ HY.out, ← Bool.and_assoc, ← HGK.out]
                              simp [methodB, *]
                            go_wp2
                            refine ⟨?_, by simp [intOf]; omega⟩
                            first
                              | exact ⟨k + 1, by omega, by go_num, ⟨true, rfl, HGN⟩, HBE⟩
                              | ((repeat apply Exists.intro)
                                 refine ⟨⟨k + 1, by omega, ?_, ⟨true, rfl, HGN⟩, HBE⟩, rfl⟩
                                 go_num)
                      · have h2 : decide (y.params.length ≤ 4) = false := by rw [HPN.out]; simp; omega
                        have hgt : ¬ pn ≤ 4 := hp4
                        have HGN : Hid (false = (G && (x.methods.take (k + 1)).all methodB)) := by
                          show false = _
                          rw [all_take_succ HY.out, ← Bool.and_assoc, ← HGK.out]
                          simp [methodB, *]
                        go_wp2
                        refine ⟨?_, by simp [intOf]; omega⟩
                        first
                          | exact ⟨k + 1, by omega, by go_num, ⟨false, rfl, HGN⟩, HBE⟩
                          | ((repeat apply Exists.intro)
                             refine ⟨⟨k + 1, by omega, ?_, ⟨false, rfl, HGN⟩, HBE⟩, rfl⟩
                             go_num)
                · obtain rfl : k = n := by omega
                  go_wp2
                  have et := List.take_of_length_le (l := x.methods) (i := k) (by rw [HN2.out]; exact Nat.le_refl _)
                  have HGN : Hid (gk = (p.main.all stmtB && (p.classes.take (j + 1)).all classB)) := by
                    show gk = _
                    rw [all_take_succ HX.out, HGK.out, et, HGD.out]
                    simp [classB, Bool.and_assoc]
                  refine ⟨?_, by simp [intOf]; omega⟩
                  first
                    | exact ⟨j + 1, by omega, by go_num, ⟨gk, rfl, HGN⟩, HBR⟩
                    | ((repeat apply Exists.intro)
                       refine ⟨⟨j + 1, by omega, ?_, ⟨gk, rfl, HGN⟩, HBR⟩, rfl⟩
                       go_num)
            | true =>
              have HG : Hid (G = true) := by show G = true; rw [HGD.out, ← HGJ.out]; simp [classTop, *]
              go_wp2
              go_loopw [3, 42] (fun v3 v42 w' => ∃ k : Nat, k ≤ n ∧ v42 = .int .i64 k ∧ (∃ gk : Bool, v3 = .bool gk ∧ Hid (gk = (G && (x.methods.take k).all methodB))) ∧ Hid (Below w.heap.size w w')) (fun _ v42 _ => n - (intOf v42).toNat)
              case atStart => exact ⟨0, by omega, rfl, ⟨true, rfl, by show true = _; rw [HG.out]; simp⟩, HBI⟩
              case round =>
                obtain ⟨k, hk, rfl, ⟨gk, rfl, HGK⟩, HBR⟩ := hrel
                by_cases hlt2 : k < n
                · obtain ⟨y, hy⟩ : ∃ y, x.methods[k]? = some y := ⟨_, List.getElem?_eq_getElem (by rw [HN2.out]; exact hlt2)⟩
                  have HY := Lib.hid hy
                  clear hy
                  obtain ⟨b', off', cs', rfl, hbl', hc, pv, bv, rfl, wt, ws, hpv, hbv⟩ := H2.out k _ HY.out
                  have HPV := Lib.hid hpv
                  have HBV := Lib.hid hbv
                  obtain ⟨pa, pn, pcap, rfl, hpn, hpc, hpm, -⟩ := hpv
                  obtain ⟨ba, bn, bcap, rfl⟩ := RSl.shape hbv
                  obtain ⟨e0, e1, e2, e3, -⟩ := cellsAt_of_block (HBR.out.block b' hbl') hc
                  have HPN := Lib.hid hpn
                  unfold maxC at hpm
                  clear hbv hc hpn
                  cases gk with
                  | false =>
                    have HBE : Hid (∀ X, Below w.heap.size w (wr.alloc X)) := fun X => HBR.out.alloc HBR.out.size X
                    have HGN : Hid (false = (G && (x.methods.take (k + 1)).all methodB)) := by
                      show false = _
                      rw [all_take_succ HY.out, ← Bool.and_assoc, ← HGK.out]; rfl
                    go_wp2
                    refine ⟨?_, by simp [intOf]; omega⟩
                    first
                      | exact ⟨k + 1, by omega, by go_num, ⟨false, rfl, HGN⟩, HBE.out _⟩
                      | ((repeat apply Exists.intro)
                         refine ⟨⟨k + 1, by omega, ?_, ⟨false, rfl, HGN⟩, HBE.out _⟩, rfl⟩
                         go_num)
                  | true =>
                    have HBA : Hid (∀ X, Below w.heap.size w (wr.alloc X)) := fun X => HBR.out.alloc HBR.out.size X
                    go_wp2_with fail
                    refine (slot_any _ _ wt ws _ (HM.out.keep (HBA.out _))).mono ?_
                    rintro e w1 ⟨rfl, hb1⟩
                    have HBE : Hid (Below w.heap.size w w1) := afterCall (HBA.out _) hb1
                    have q2 : w1.cell? ⟨wr.heap.size, 2, none⟩ = some (.slice pa pn pcap) := (hb1.cell (by simp)).trans (by simp)
                    have q3 : w1.cell? ⟨wr.heap.size, 3, none⟩ = some (.slice ba bn bcap) := (hb1.cell (by simp)).trans (by simp)
                    clear hb1 e0 e1 e2 e3 HBA
                    cases h1 : slotB ⟨y.type, y.name⟩ with
                    | false =>
                      have HGN : Hid (false = (G && (x.methods.take (k + 1)).all methodB)) := by
                        show false = _
                        rw [all_take_succ HY.out, ← Bool.and_assoc, ← HGK.out]
                        simp [methodB, *]
                      go_wp2
                      refine ⟨?_, by simp [intOf]; omega⟩
                      first
                        | exact ⟨k + 1, by omega, by go_num, ⟨false, rfl, HGN⟩, HBE⟩
                        | ((repeat apply Exists.intro)
                           refine ⟨⟨k + 1, by omega, ?_, ⟨false, rfl, HGN⟩, HBE⟩, rfl⟩
                           go_num)
                    | true =>
                      by_cases hp4 : pn ≤ 4
                      · have h2 : decide (y.params.length ≤ 4) = true := by rw [HPN.out]; simp [hp4]
                        have H2' := Lib.hid h2
                        clear h2
                        go_wp2_with fail
                        refine (slots_any w1 (HM.out.keep HBE.out) _ y.params (HPV.out.mono (fun k hk => Nat.lt_of_lt_of_le hk HBE.out.size) (fun k hk => HBE.out.block k hk))).mono ?_
                        rintro e w2 ⟨rfl, hb2⟩
                        have HBE1 := HBE
                        clear HBE
                        have HBE := nextB hb2 HBE1
                        have r3 := next (o := 3) hb2 q3
                        clear hb2 q2 q3 HBE1
                        cases h3 : y.params.all slotB with
                        | false =>
                          have h2 := H2'.out
                          have HGN : Hid (false = (G && (x.methods.take (k + 1)).all methodB)) := by
                            show false = _
                            rw [all_take_succ HY.out, ← Bool.and_assoc, ← HGK.out]
                            simp [methodB, *]
                          go_wp2
                          refine ⟨?_, by simp [intOf]; omega⟩
                          first
                            | exact ⟨k + 1, by omega, by go_num, ⟨false, rfl, HGN⟩, HBE⟩
                            | ((repeat apply Exists.intro)
                               refine ⟨⟨k + 1, by omega, ?_, ⟨false, rfl, HGN⟩, HBE⟩, rfl⟩
                               go_num)
                        | true =>
                          go_wp2_with fail
                          refine (stmts_any d w2 _ y.body (HM.out.keep HBE.out) (HBV.out.mono (fun k hk => Nat.lt_of_lt_of_le hk HBE.out.size) (fun k hk => HBE.out.block k hk))).mono ?_
                          rintro e w3 ⟨rfl, hb3⟩
                          have HBE1 := HBE
                          clear HBE
                          have HBE := nextB hb3 HBE1
                          clear hb3 r3 HBE1
                          cases h4 : y.body.all stmtB with
                          | false =>
                            have h2 := H2'.out
                            have HGN : Hid (false = (G && (x.methods.take (k + 1)).all methodB)) := by
                              show false = _
                              rw [all_take_succ HY.out, ← Bool.and_assoc, ← HGK.out]
                              simp [methodB, *]
                            go_wp2
                            refine ⟨?_, by simp [intOf]; omega⟩
                            first
                              | exact ⟨k + 1, by omega, by go_num, ⟨false, rfl, HGN⟩, HBE⟩
                              | ((repeat apply Exists.intro)
                                 refine ⟨⟨k + 1, by omega, ?_, ⟨false, rfl, HGN⟩, HBE⟩, rfl⟩
                                 go_num)
                          | true =>
                            have h2 := H2'.out
                            have HGN : Hid (true = (G && (x.methods.take (k + 1)).all methodB)) := by
                              show true = _
                              rw [all_take_succ HY.out, ← Bool.and_assoc, ← HGK.out]
                              simp [methodB, *]
                            go_wp2
                            refine ⟨?_, by simp [intOf]; omega⟩
                            first
                              | exact ⟨k + 1, by omega, by go_num, ⟨true, rfl, HGN⟩, HBE⟩
                              | ((repeat apply Exists.intro)
                                 refine ⟨⟨k + 1, by omega, ?_, ⟨true, rfl, HGN⟩, HBE⟩, rfl⟩
                                 go_num)
                      · have h2 : decide (y.params.length ≤ 4) = false := by rw [HPN.out]; simp; omega
                        have hgt : ¬ pn ≤ 4 := hp4
                        have HGN : Hid (false = (G && (x.methods.take (k + 1)).all methodB)) := by
                          show false = _
                          rw [all_take_succ HY.out, ← Bool.and_assoc, ← HGK.out]
                          simp [methodB, *]
                        go_wp2
                        refine ⟨?_, by simp [intOf]; omega⟩
                        first
                          | exact ⟨k + 1, by omega, by go_num, ⟨false, rfl, HGN⟩, HBE⟩
                          | ((repeat apply Exists.intro)
                             refine ⟨⟨k + 1, by omega, ?_, ⟨false, rfl, HGN⟩, HBE⟩, rfl⟩
                             go_num)
                · obtain rfl : k = n := by omega
                  go_wp2
                  have et := List.take_of_length_le (l := x.methods) (i := k) (by rw [HN2.out]; exact Nat.le_refl _)
                  have HGN : Hid (gk = (p.main.all stmtB && (p.classes.take (j + 1)).all classB)) := by
                    show gk = _
                    rw [all_take_succ HX.out, HGK.out, et, HGD.out]
                    simp [classB, Bool.and_assoc]
                  refine ⟨?_, by simp [intOf]; omega⟩
                  first
                    | exact ⟨j + 1, by omega, by go_num, ⟨gk, rfl, HGN⟩, HBR⟩
                    | ((repeat apply Exists.intro)
                       refine ⟨⟨j + 1, by omega, ?_, ⟨gk, rfl, HGN⟩, HBR⟩, rfl⟩
                       go_num)
          | false =>
            have h2' : x.super.toList.isEmpty = false := h2
            go_wp2_with fail
            refine (name_in (HM.out.keep (HBA.out _)) _ wu).mono ?_
            rintro e w' ⟨rfl, rfl⟩
            cases h3 : isNameB x.super with
            | false =>
              have HG : Hid (G = false) := by show G = false; rw [HGD.out]; simp [classTop, h1, h3, h2']
              go_wp2
              go_loopw [3, 42] (fun v3 v42 w' => ∃ k : Nat, k ≤ n ∧ v42 = .int .i64 k ∧ (∃ gk : Bool, v3 = .bool gk ∧ Hid (gk = (G && (x.methods.take k).all methodB))) ∧ Hid (Below w.heap.size w w')) (fun _ v42 _ => n - (intOf v42).toNat)
              case atStart => exact ⟨0, by omega, rfl, ⟨false, rfl, by show false = _; rw [HG.out]; simp⟩, HBA.out _⟩
              case round =>
                obtain ⟨k, hk, rfl, ⟨gk, rfl, HGK⟩, HBR⟩ := hrel
                by_cases hlt2 : k < n
                · obtain ⟨y, hy⟩ : ∃ y, x.methods[k]? = some y := ⟨_, List.getElem?_eq_getElem (by rw [HN2.out]; exact hlt2)⟩
                  have HY := Lib.hid hy
                  clear hy
                  obtain ⟨b', off', cs', rfl, hbl', hc, pv, bv, rfl, wt, ws, hpv, hbv⟩ := H2.out k _ HY.out
                  have HPV := Lib.hid hpv
                  have HBV := Lib.hid hbv
                  obtain ⟨pa, pn, pcap, rfl, hpn, hpc, hpm, -⟩ := hpv
                  obtain ⟨ba, bn, bcap, rfl⟩ := RSl.shape hbv
                  obtain ⟨e0, e1, e2, e3, -⟩ := cellsAt_of_block (HBR.out.block b' hbl') hc
                  have HPN := Lib.hid hpn
                  unfold maxC at hpm
                  clear hbv hc hpn
                  cases gk with
                  | false =>
                    have HBE : Hid (∀ X, Below w.heap.size w (wr.alloc X)) := fun X => HBR.out.alloc HBR.out.size X
                    have HGN : Hid (false = (G && (x.methods.take (k + 1)).all methodB)) := by
                      show false = _
                      rw [all_take_succ HY.out, ← Bool.and_assoc, ← HGK.out]; rfl
                    go_wp2
                    refine ⟨?_, by simp [intOf]; omega⟩
                    first
                      | exact ⟨k + 1, by omega, by go_num, ⟨false, rfl, HGN⟩, HBE.out _⟩
                      | ((repeat apply Exists.intro)
                         refine ⟨⟨k + 1, by omega, ?_, ⟨false, rfl, HGN⟩, HBE.out _⟩, rfl⟩
                         go_num)
                  | true =>
                    have HBA : Hid (∀ X, Below w.heap.size w (wr.alloc X)) := fun X => HBR.out.alloc HBR.out.size X
                    go_wp2_with fail
                    refine (slot_any _ _ wt ws _ (HM.out.keep (HBA.out _))).mono ?_
                    rintro e w1 ⟨rfl, hb1⟩
                    have HBE : Hid (Below w.heap.size w w1) := afterCall (HBA.out _) hb1
                    have q2 : w1.cell? ⟨wr.heap.size, 2, none⟩ = some (.slice pa pn pcap) := (hb1.cell (by simp)).trans (by simp)
                    have q3 : w1.cell? ⟨wr.heap.size, 3, none⟩ = some (.slice ba bn bcap) := (hb1.cell (by simp)).trans (by simp)
                    clear hb1 e0 e1 e2 e3 HBA
                    cases h1 : slotB ⟨y.type, y.name⟩ with
                    | false =>
                      have HGN : Hid (false = (G && (x.methods.take (k + 1)).all methodB)) := by
                        show false = _
                        rw [all_take_succ HY.out, ← Bool.and_assoc, ← HGK.out]
                        simp [methodB, *]
                      go_wp2
                      refine ⟨?_, by simp [intOf]; omega⟩
                      first
                        | exact ⟨k + 1, by omega, by go_num, ⟨false, rfl, HGN⟩, HBE⟩
                        | ((repeat apply Exists.intro)
                           refine ⟨⟨k + 1, by omega, ?_, ⟨false, rfl, HGN⟩, HBE⟩, rfl⟩
                           go_num)
                    | true =>
                      by_cases hp4 : pn ≤ 4
                      · have h2 : decide (y.params.length ≤ 4) = true := by rw [HPN.out]; simp [hp4]
                        have H2' := Lib.hid h2
                        clear h2
                        go_wp2_with fail
                        refine (slots_any w1 (HM.out.keep HBE.out) _ y.params (HPV.out.mono (fun k hk => Nat.lt_of_lt_of_le hk HBE.out.size) (fun k hk => HBE.out.block k hk))).mono ?_
                        rintro e w2 ⟨rfl, hb2⟩
                        have HBE1 := HBE
                        clear HBE
                        have HBE := nextB hb2 HBE1
                        have r3 := next (o := 3) hb2 q3
                        clear hb2 q2 q3 HBE1
                        cases h3 : y.params.all slotB with
                        | false =>
                          have h2 := H2'.out
                          have HGN : Hid (false = (G && (x.methods.take (k + 1)).all methodB)) := by
                            show false = _
                            rw [all_take_succ HY.out, ← Bool.and_assoc, ← HGK.out]
                            simp [methodB, *]
                          go_wp2
                          refine ⟨?_, by simp [intOf]; omega⟩
                          first
                            | exact ⟨k + 1, by omega, by go_num, ⟨false, rfl, HGN⟩, HBE⟩
                            | ((repeat apply Exists.intro)
                               refine ⟨⟨k + 1, by omega, ?_, ⟨false, rfl, HGN⟩, HBE⟩, rfl⟩
                               go_num)
                        | true =>
                          go_wp2_with fail
                          refine (stmts_any d w2 _ y.body (HM.out.keep HBE.out) (HBV.out.mono (fun k hk => Nat.lt_of_lt_of_le hk HBE.out.size) (fun k hk => HBE.out.block k hk))).mono ?_
                          rintro e w3 ⟨rfl, hb3⟩
                          have HBE1 := HBE
                          clear HBE
                          have HBE := nextB hb3 HBE1
                          clear hb3 r3 HBE1
                          cases h4 : y.body.all stmtB with
                          | false =>
                            have h2 := H2'.out
                            have HGN : Hid (false = (G && (x.methods.take (k + 1)).all methodB)) := by
                              show false = _
                              rw [all_take_succ HY.out, ← Bool.and_assoc, ← HGK.out]
                              simp [methodB, *]
                            go_wp2
                            refine ⟨?_, by simp [intOf]; omega⟩
                            first
                              | exact ⟨k + 1, by omega, by go_num, ⟨false, rfl, HGN⟩, HBE⟩
                              | ((repeat apply Exists.intro)
                                 refine ⟨⟨k + 1, by omega, ?_, ⟨false, rfl, HGN⟩, HBE⟩, rfl⟩
                                 go_num)
                          | true =>
                            have h2 := H2'.out
                            have HGN : Hid (true = (G && (x.methods.take (k + 1)).all methodB)) := by
                              show true = _
                              rw [all_take_succ HY.out, ← Bool.and_assoc, ← HGK.out]
                              simp [methodB, *]
                            go_wp2
                            refine ⟨?_, by simp [intOf]; omega⟩
                            first
                              | exact ⟨k + 1, by omega, by go_num, ⟨true, rfl, HGN⟩, HBE⟩
                              | ((repeat apply Exists.intro)
                                 refine ⟨⟨k + 1, by omega, ?_, ⟨true, rfl, HGN⟩, HBE⟩, rfl⟩
                                 go_num)
                      · have h2 : decide (y.params.length ≤ 4) = false := by rw [HPN.out]; simp; omega
                        have hgt : ¬ pn ≤ 4 := hp4
                        have HGN : Hid (false = (G && (x.methods.take (k + 1)).all methodB)) := by
                          show false = _
                          rw [all_take_succ HY.out, ← Bool.and_assoc, ← HGK.out]
                          simp [methodB, *]
                        go_wp2
                        refine ⟨?_, by simp [intOf]; omega⟩
                        first
                          | exact ⟨k + 1, by omega, by go_num, ⟨false, rfl, HGN⟩, HBE⟩
                          | ((repeat apply Exists.intro)
                             refine ⟨⟨k + 1, by omega, ?_, ⟨false, rfl, HGN⟩, HBE⟩, rfl⟩
                             go_num)
                · obtain rfl : k = n := by omega
                  go_wp2
                  have et := List.take_of_length_le (l := x.methods) (i := k) (by rw [HN2.out]; exact Nat.le_refl _)
                  have HGN : Hid (gk = (p.main.all stmtB && (p.classes.take (j + 1)).all classB)) := by
                    show gk = _
                    rw [all_take_succ HX.out, HGK.out, et, HGD.out]
                    simp [classB, Bool.and_assoc]
                  refine ⟨?_, by simp [intOf]; omega⟩
                  first
                    | exact ⟨j + 1, by omega, by go_num, ⟨gk, rfl, HGN⟩, HBR⟩
                    | ((repeat apply Exists.intro)
                       refine ⟨⟨j + 1, by omega, ?_, ⟨gk, rfl, HGN⟩, HBR⟩, rfl⟩
                       go_num)
            | true =>
              go_wp2_with fail
              refine (slots_any _ (HM.out.keep (HBA.out _)) _ x.fields (HF.out.mono (fun k hk => Nat.lt_of_lt_of_le hk (HBA.out _).size) (fun k hk => (HBA.out _).block k hk))).mono ?_
              rintro e w2 ⟨rfl, hb2⟩
              have HBI : Hid (Below w.heap.size w w2) := afterCall (HBA.out _) hb2
              have q3 : w2.cell? ⟨wo.heap.size, 3, none⟩ = some (.slice a n cap) := (hb2.cell (by simp)).trans (by simp)
              clear hb2
              cases h4 : x.fields.all slotB with
              | false =>
                have HG : Hid (G = false) := by show G = false; rw [HGD.out]; simp [classTop, h4]
                go_wp2
                go_loopw [3, 42] (fun v3 v42 w' => ∃ k : Nat, k ≤ n ∧ v42 = .int .i64 k ∧ (∃ gk : Bool, v3 = .bool gk ∧ Hid (gk = (G && (x.methods.take k).all methodB))) ∧ Hid (Below w.heap.size w w')) (fun _ v42 _ => n - (intOf v42).toNat)
                case atStart => exact ⟨0, by omega, rfl, ⟨false, rfl, by show false = _; rw [HG.out]; simp⟩, HBI⟩
                case round =>
                  obtain ⟨k, hk, rfl, ⟨gk, rfl, HGK⟩, HBR⟩ := hrel
                  by_cases hlt2 : k < n
                  · obtain ⟨y, hy⟩ : ∃ y, x.methods[k]? = some y := ⟨_, List.getElem?_eq_getElem (by rw [HN2.out]; exact hlt2)⟩
                    have HY := Lib.hid hy
                    clear hy
                    obtain ⟨b', off', cs', rfl, hbl', hc, pv, bv, rfl, wt, ws, hpv, hbv⟩ := H2.out k _ HY.out
                    have HPV := Lib.hid hpv
                    have HBV := Lib.hid hbv
                    obtain ⟨pa, pn, pcap, rfl, hpn, hpc, hpm, -⟩ := hpv
                    obtain ⟨ba, bn, bcap, rfl⟩ := RSl.shape hbv
                    obtain ⟨e0, e1, e2, e3, -⟩ := cellsAt_of_block (HBR.out.block b' hbl') hc
                    have HPN := Lib.hid hpn
                    unfold maxC at hpm
                    clear hbv hc hpn
                    cases gk with
                    | false =>
                      have HBE : Hid (∀ X, Below w.heap.size w (wr.alloc X)) := fun X => HBR.out.alloc HBR.out.size X
                      have HGN : Hid (false = (G && (x.methods.take (k + 1)).all methodB)) := by
                        show false = _
                        rw [all_take_succ HY.out, ← Bool.and_assoc, ← HGK.out]; rfl
                      go_wp2
                      refine ⟨?_, by simp [intOf]; omega⟩
                      first
                        | exact ⟨k + 1, by omega, by go_num, ⟨false, rfl, HGN⟩, HBE.out _⟩
                        | ((repeat apply Exists.intro)
                           refine ⟨⟨k + 1, by omega, ?_, ⟨false, rfl, HGN⟩, HBE.out _⟩, rfl⟩
                           go_num)
                    | true =>
                      have HBA : Hid (∀ X, Below w.heap.size w (wr.alloc X)) := fun X => HBR.out.alloc HBR.out.size X
                      go_wp2_with fail
                      refine (slot_any _ _ wt ws _ (HM.out.keep (HBA.out _))).mono ?_
                      rintro e w1 ⟨rfl, hb1⟩
                      have HBE : Hid (Below w.heap.size w w1) := afterCall (HBA.out _) hb1
                      have q2 : w1.cell? ⟨wr.heap.size, 2, none⟩ = some (.slice pa pn pcap) := (hb1.cell (by simp)).trans (by simp)
                      have q3 : w1.cell? ⟨wr.heap.size, 3, none⟩ = some (.slice ba bn bcap) := (hb1.cell (by simp)).trans (by simp)
                      clear hb1 e0 e1 e2 e3 HBA
                      cases h1 : slotB ⟨y.type, y.name⟩ with
                      | false =>
                        have HGN : Hid (false = (G && (x.methods.take (k + 1)).all methodB)) := by
                          show false = _
                          rw [all_take_succ HY.out, ← Bool.and_assoc, ← HGK.out]
                          simp [methodB, *]
                        go_wp2
                        refine ⟨?_, by simp [intOf]; omega⟩
                        first
                          | exact ⟨k + 1, by omega, by go_num, ⟨false, rfl, HGN⟩, HBE⟩
                          | ((repeat apply Exists.intro)
                             refine ⟨⟨k + 1, by omega, ?_, ⟨false, rfl, HGN⟩, HBE⟩, rfl⟩
                             go_num)
                      | true =>
                        by_cases hp4 : pn ≤ 4
                        · have h2 : decide (y.params.length ≤ 4) = true := by rw [HPN.out]; simp [hp4]
                          have H2' := Lib.hid h2
                          clear h2
                          go_wp2_with fail
                          refine (slots_any w1 (HM.out.keep HBE.out) _ y.params (HPV.out.mono (fun k hk => Nat.lt_of_lt_of_le hk HBE.out.size) (fun k hk => HBE.out.block k hk))).mono ?_
                          rintro e w2 ⟨rfl, hb2⟩
                          have HBE1 := HBE
                          clear HBE
                          have HBE := nextB hb2 HBE1
                          have r3 := next (o := 3) hb2 q3
                          clear hb2 q2 q3 HBE1
                          cases h3 : y.params.all slotB with
                          | false =>
                            have h2 := H2'.out
                            have HGN : Hid (false = (G && (x.methods.take (k + 1)).all methodB)) := by
                              show false = _
                              rw [all_take_succ HY.out, ← Bool.and_assoc, ← HGK.out]
                              simp [methodB, *]
                            go_wp2
                            refine ⟨?_, by simp [intOf]; omega⟩
                            first
                              | exact ⟨k + 1, by omega, by go_num, ⟨false, rfl, HGN⟩, HBE⟩
                              | ((repeat apply Exists.intro)
                                 refine ⟨⟨k + 1, by omega, ?_, ⟨false, rfl, HGN⟩, HBE⟩, rfl⟩
                                 go_num)
                          | true =>
                            go_wp2_with fail
                            refine (stmts_any d w2 _ y.body (HM.out.keep HBE.out) (HBV.out.mono (fun k hk => Nat.lt_of_lt_of_le hk HBE.out.size) (fun k hk => HBE.out.block k hk))).mono ?_
                            rintro e w3 ⟨rfl, hb3⟩
                            have HBE1 := HBE
                            clear HBE
                            have HBE := nextB hb3 HBE1
                            clear hb3 r3 HBE1
                            cases h4 : y.body.all stmtB with
                            | false =>
                              have h2 := H2'.out
                              have HGN : Hid (false = (G && (x.methods.take (k + 1)).all methodB)) := by
                                show false = _
                                rw [all_take_succ HY.out, ← Bool.and_assoc, ← HGK.out]
                                simp [methodB, *]
                              go_wp2
                              refine ⟨?_, by simp [intOf]; omega⟩
                              first
                                | exact ⟨k + 1, by omega, by go_num, ⟨false, rfl, HGN⟩, HBE⟩
                                | ((repeat apply Exists.intro)
                                   refine ⟨⟨k + 1, by omega, ?_, ⟨false, rfl, HGN⟩, HBE⟩, rfl⟩
                                   go_num)
                            | true =>
                              have h2 := H2'.out
                              have HGN : Hid (true = (G && (x.methods.take (k + 1)).all methodB)) := by
                                show true = _
                                rw [all_take_succ HY.out, ← Bool.and_assoc, ← HGK.out]
                                simp [methodB, *]
                              go_wp2
                              refine ⟨?_, by simp [intOf]; omega⟩
                              first
                                | exact ⟨k + 1, by omega, by go_num, ⟨true, rfl, HGN⟩, HBE⟩
                                | ((repeat apply Exists.intro)
                                   refine ⟨⟨k + 1, by omega, ?_, ⟨true, rfl, HGN⟩, HBE⟩, rfl⟩
                                   go_num)
                        · have h2 : decide (y.params.length ≤ 4) = false := by rw [HPN.out]; simp; omega
                          have hgt : ¬ pn ≤ 4 := hp4
                          have HGN : Hid (false = (G && (x.methods.take (k + 1)).all methodB)) := by
                            show false = _
                            rw [all_take_succ HY.out, ← Bool.and_assoc, ← HGK.out]
                            simp [methodB, *]
                          go_wp2
                          refine ⟨?_, by simp [intOf]; omega⟩
                          first
                            | exact ⟨k + 1, by omega, by go_num, ⟨false, rfl, HGN⟩, HBE⟩
                            | ((repeat apply Exists.intro)
                               refine ⟨⟨k + 1, by omega, ?_, ⟨false, rfl, HGN⟩, HBE⟩, rfl⟩
                               go_num)
                  · obtain rfl : k = n := by omega
                    go_wp2
                    have et := List.take_of_length_le (l := x.methods) (i := k) (by rw [HN2.out]; exact Nat.le_refl _)
                    have HGN : Hid (gk = (p.main.all stmtB && (p.classes.take (j + 1)).all classB)) := by
                      show gk = _
                      rw [all_take_succ HX.out, HGK.out, et, HGD.out]
                      simp [classB, Bool.and_assoc]
                    refine ⟨?_, by simp [intOf]; omega⟩
                    first
                      | exact ⟨j + 1, by omega, by go_num, ⟨gk, rfl, HGN⟩, HBR⟩
                      | ((repeat apply Exists.intro)
                         refine ⟨⟨j + 1, by omega, ?_, ⟨gk, rfl, HGN⟩, HBR⟩, rfl⟩
                         go_num)
              | true =>
                have HG : Hid (G = true) := by show G = true; rw [HGD.out, ← HGJ.out]; simp [classTop, *]
                go_wp2
                go_loopw [3, 42] (fun v3 v42 w' => ∃ k : Nat, k ≤ n ∧ v42 = .int .i64 k ∧ (∃ gk : Bool, v3 = .bool gk ∧ Hid (gk = (G && (x.methods.take k).all methodB))) ∧ Hid (Below w.heap.size w w')) (fun _ v42 _ => n - (intOf v42).toNat)
                case atStart => exact ⟨0, by omega, rfl, ⟨true, rfl, by show true = _; rw [HG.out]; simp⟩, HBI⟩
                case round =>
                  obtain ⟨k, hk, rfl, ⟨gk, rfl, HGK⟩, HBR⟩ := hrel
                  by_cases hlt2 : k < n
                  · obtain ⟨y, hy⟩ : ∃ y, x.methods[k]? = some y := ⟨_, List.getElem?_eq_getElem (by rw [HN2.out]; exact hlt2)⟩
                    have HY := Lib.hid hy
                    clear hy
                    obtain ⟨b', off', cs', rfl, hbl', hc, pv, bv, rfl, wt, ws, hpv, hbv⟩ := H2.out k _ HY.out
                    have HPV := Lib.hid hpv
                    have HBV := Lib.hid hbv
                    obtain ⟨pa, pn, pcap, rfl, hpn, hpc, hpm, -⟩ := hpv
                    obtain ⟨ba, bn, bcap, rfl⟩ := RSl.shape hbv
                    obtain ⟨e0, e1, e2, e3, -⟩ := cellsAt_of_block (HBR.out.block b' hbl') hc
                    have HPN := Lib.hid hpn
                    unfold maxC at hpm
                    clear hbv hc hpn
                    cases gk with
                    | false =>
                      have HBE : Hid (∀ X, Below w.heap.size w (wr.alloc X)) := fun X => HBR.out.alloc HBR.out.size X
                      have HGN : Hid (false = (G && (x.methods.take (k + 1)).all methodB)) := by
                        show false = _
                        rw [all_take_succ HY.out, ← Bool.and_assoc, ← HGK.out]; rfl
                      go_wp2
                      refine ⟨?_, by simp [intOf]; omega⟩
                      first
                        | exact ⟨k + 1, by omega, by go_num, ⟨false, rfl, HGN⟩, HBE.out _⟩
                        | ((repeat apply Exists.intro)
                           refine ⟨⟨k + 1, by omega, ?_, ⟨false, rfl, HGN⟩, HBE.out _⟩, rfl⟩
                           go_num)
                    | true =>
                      have HBA : Hid (∀ X, Below w.heap.size w (wr.alloc X)) := fun X => HBR.out.alloc HBR.out.size X
                      go_wp2_with fail
                      refine (slot_any _ _ wt ws _ (HM.out.keep (HBA.out _))).mono ?_
                      rintro e w1 ⟨rfl, hb1⟩
                      have HBE : Hid (Below w.heap.size w w1) := afterCall (HBA.out _) hb1
                      have q2 : w1.cell? ⟨wr.heap.size, 2, none⟩ = some (.slice pa pn pcap) := (hb1.cell (by simp)).trans (by simp)
                      have q3 : w1.cell? ⟨wr.heap.size, 3, none⟩ = some (.slice ba bn bcap) := (hb1.cell (by simp)).trans (by simp)
                      clear hb1 e0 e1 e2 e3 HBA
                      cases h1 : slotB ⟨y.type, y.name⟩ with
                      | false =>
                        have HGN : Hid (false = (G && (x.methods.take (k + 1)).all methodB)) := by
                          show false = _
                          rw [all_take_succ HY.out, ← Bool.and_assoc, ← HGK.out]
                          simp [methodB, *]
                        go_wp2
                        refine ⟨?_, by simp [intOf]; omega⟩
                        first
                          | exact ⟨k + 1, by omega, by go_num, ⟨false, rfl, HGN⟩, HBE⟩
                          | ((repeat apply Exists.intro)
                             refine ⟨⟨k + 1, by omega, ?_, ⟨false, rfl, HGN⟩, HBE⟩, rfl⟩
                             go_num)
                      | true =>
                        by_cases hp4 : pn ≤ 4
                        · have h2 : decide (y.params.length ≤ 4) = true := by rw [HPN.out]; simp [hp4]
                          have H2' := Lib.hid h2
                          clear h2
                          go_wp2_with fail
                          refine (slots_any w1 (HM.out.keep HBE.out) _ y.params (HPV.out.mono (fun k hk => Nat.lt_of_lt_of_le hk HBE.out.size) (fun k hk => HBE.out.block k hk))).mono ?_
                          rintro e w2 ⟨rfl, hb2⟩
                          have HBE1 := HBE
                          clear HBE
                          have HBE := nextB hb2 HBE1
                          have r3 := next (o := 3) hb2 q3
                          clear hb2 q2 q3 HBE1
                          cases h3 : y.params.all slotB with
                          | false =>
                            have h2 := H2'.out
                            have HGN : Hid (false = (G && (x.methods.take (k + 1)).all methodB)) := by
                              show false = _
                              rw [all_take_succ HY.out, ← Bool.and_assoc, ← HGK.out]
                              simp [methodB, *]
                            go_wp2
                            refine ⟨?_, by simp [intOf]; omega⟩
                            first
                              | exact ⟨k + 1, by omega, by go_num, ⟨false, rfl, HGN⟩, HBE⟩
                              | ((repeat apply Exists.intro)
                                 refine ⟨⟨k + 1, by omega, ?_, ⟨false, rfl, HGN⟩, HBE⟩, rfl⟩
                                 go_num)
                          | true =>
                            go_wp2_with fail
                            refine (stmts_any d w2 _ y.body (HM.out.keep HBE.out) (HBV.out.mono (fun k hk => Nat.lt_of_lt_of_le hk HBE.out.size) (fun k hk => HBE.out.block k hk))).mono ?_
                            rintro e w3 ⟨rfl, hb3⟩
                            have HBE1 := HBE
                            clear HBE
                            have HBE := nextB hb3 HBE1
                            clear hb3 r3 HBE1
                            cases h4 : y.body.all stmtB with
                            | false =>
                              have h2 := H2'.out
                              have HGN : Hid (false = (G && (x.methods.take (k + 1)).all methodB)) := by
                                show false = _
                                rw [all_take_succ HY.out, ← Bool.and_assoc, ← HGK.out]
                                simp [methodB, *]
                              go_wp2
                              refine ⟨?_, by simp [intOf]; omega⟩
                              first
                                | exact ⟨k + 1, by omega, by go_num, ⟨false, rfl, HGN⟩, HBE⟩
                                | ((repeat apply Exists.intro)
                                   refine ⟨⟨k + 1, by omega, ?_, ⟨false, rfl, HGN⟩, HBE⟩, rfl⟩
                                   go_num)
                            | true =>
                              have h2 := H2'.out
                              have HGN : Hid (true = (G && (x.methods.take (k + 1)).all methodB)) := by
                                show true = _
                                rw [all_take_succ HY.out, ← Bool.and_assoc, ← HGK.out]
                                simp [methodB, *]
                              go_wp2
                              refine ⟨?_, by simp [intOf]; omega⟩
                              first
                                | exact ⟨k + 1, by omega, by go_num, ⟨true, rfl, HGN⟩, HBE⟩
                                | ((repeat apply Exists.intro)
                                   refine ⟨⟨k + 1, by omega, ?_, ⟨true, rfl, HGN⟩, HBE⟩, rfl⟩
                                   go_num)
                        · have h2 : decide (y.params.length ≤ 4) = false := by rw [HPN.out]; simp; omega
                          have hgt : ¬ pn ≤ 4 := hp4
                          have HGN : Hid (false = (G && (x.methods.take (k + 1)).all methodB)) := by
                            show false = _
                            rw [all_take_succ HY.out, ← Bool.and_assoc, ← HGK.out]
                            simp [methodB, *]
                          go_wp2
                          refine ⟨?_, by simp [intOf]; omega⟩
                          first
                            | exact ⟨k + 1, by omega, by go_num, ⟨false, rfl, HGN⟩, HBE⟩
                            | ((repeat apply Exists.intro)
                               refine ⟨⟨k + 1, by omega, ?_, ⟨false, rfl, HGN⟩, HBE⟩, rfl⟩
                               go_num)
                  · obtain rfl : k = n := by omega
                    go_wp2
                    have et := List.take_of_length_le (l := x.methods) (i := k) (by rw [HN2.out]; exact Nat.le_refl _)
                    have HGN : Hid (gk = (p.main.all stmtB && (p.classes.take (j + 1)).all classB)) := by
                      show gk = _
                      rw [all_take_succ HX.out, HGK.out, et, HGD.out]
                      simp [classB, Bool.and_assoc]
                    refine ⟨?_, by simp [intOf]; omega⟩
                    first
                      | exact ⟨j + 1, by omega, by go_num, ⟨gk, rfl, HGN⟩, HBR⟩
                      | ((repeat apply Exists.intro)
                         refine ⟨⟨j + 1, by omega, ?_, ⟨gk, rfl, HGN⟩, HBR⟩, rfl⟩
                         go_num)
    · obtain rfl : j = cn := by omega
      have et := List.take_of_length_le (l := p.classes) (i := j) (by rw [HN.out]; exact Nat.le_refl _)
      have HE : Hid (g = checkB p) := by have := HGJ.out; rw [et] at this; exact this
      clear et
      cases g with
      | false =>
        go_wp2
        go_ret
        exact ⟨by rw [← HE.out]; rfl, HB.out⟩
      | true =>
        go_wp2
        go_ret
        exact ⟨by rw [← HE.out]; rfl, HB.out⟩
end Go.Proofs.Ythhpcjoaogmhbaa
end
section
namespace Go.Proofs.Ythhpcjoaogmhbaa
open Go.RowKit
theorem all_false {α : Type} {l : List α} {p : α → Bool} {k : Nat} {y : α} (h : l[k]? = some y) (hy : p y = false) : l.all p = false := by
  rw [Bool.eq_false_iff]; intro ha
  rw [List.all_eq_true] at ha
  have := ha y (List.mem_of_getElem? h)
  rw [hy] at this; cases this
set_option maxHeartbeats 8000000 in
theorem refCheck_any (d : Nat) (w : World) (v : Value) (p : Program) (hp : RProgram d w (· < w.heap.size) v p) :
    Calls Try.prog 21 #[v] w fun e w' => e = .returned (.int .i64 (treeErr (checkB p))) ∧ Below w.heap.size w w' := by
  obtain ⟨cv, mv, rfl, hC, hS⟩ := hp
  obtain ⟨ca, cn, ccap, rfl, hn, hcap, hmax, hel⟩ := hC
  obtain ⟨ma, mn, mcap, rfl⟩ := RSl.shape hS
  have H := Lib.hid hel
  have HN := Lib.hid hn
  have HS := Lib.hid hS
  unfold maxC at hmax
  clear hel hn hS
  go_enter Try.func21, Try.ntmps21
  go_wp2
  go_loopw [10] (fun v10 w' => ∃ j : Nat, j ≤ cn ∧ v10 = .int .i64 j ∧ Hid ((p.classes.take j).all classB = true) ∧ Hid (Below w.heap.size w w') ∧ w'.cell? ⟨w.heap.size, 1, none⟩ = some (.slice ma mn mcap)) (fun v10 _ => cn - (intOf v10).toNat)
  case atStart => exact ⟨0, by omega, rfl, rfl, by show Below w.heap.size w _; go_grown, by simp⟩
  case round =>
    obtain ⟨j, hj, rfl, HGJ, HB, k1⟩ := hrel
    by_cases hlt : j < cn
    · obtain ⟨x, hx⟩ : ∃ x, p.classes[j]? = some x := ⟨_, List.getElem?_eq_getElem (by rw [HN.out]; exact hlt)⟩
      have HX := Lib.hid hx
      clear hx
      obtain ⟨b, off, cs, rfl, hbl, hc, fv, mv, rfl, wn, wu, hf, hm⟩ := H.out j _ HX.out
      have HF := Lib.hid hf
      obtain ⟨fa, fn, fcap, rfl⟩ := RSl.shape hf
      obtain ⟨a, n, cap, rfl, hn, hcap1, hmax1, hel⟩ := hm
      obtain ⟨c0, c1, c2, c3, -⟩ := cellsAt_of_block (HB.out.block b hbl) hc
      have H2 := Lib.hid hel
      have HN2 := Lib.hid hn
      unfold maxC at hmax1
      clear hel hn hf hc
      obtain ⟨wo, rfl⟩ : ∃ wo : World, wo = wr := ⟨_, rfl⟩
      have HBA : Hid (∀ X, Below w.heap.size w (wo.alloc X)) := fun X => HB.out.alloc HB.out.size X
      go_wp2_with fail
      refine (refIsName_any _ wn _).mono ?_
      rintro e w' ⟨rfl, rfl⟩
      cases h1 : isNameB x.name with
      | false =>
        have HNO : Hid (treeErr (checkB p) = 30) := by
          have hx : classB x = false := (by simp [classB, classTop, h1])
          show treeErr (checkB p) = 30
          unfold checkB
          rw [all_false HX.out hx]; simp [treeErr]
        go_wp2
        go_ret
        refine ⟨by rw [HNO.out]; rfl, ?_⟩
        exact HBA.out _
      | true =>
        cases h2 : x.super.toList.isEmpty with
        | true =>
          have h2' : (!x.super.toList.isEmpty) = false := by rw [h2]; rfl
          go_wp2_with fail
          refine (maySlots_any _ _ x.fields (HF.out.mono (fun k hk => Nat.lt_of_lt_of_le hk (HBA.out _).size) (fun k hk => (HBA.out _).block k hk))).mono ?_
          rintro e w2 ⟨rfl, hb2⟩
          have HBI : Hid (Below w.heap.size w w2) := afterCall (HBA.out _) hb2
          have q3 : w2.cell? ⟨wo.heap.size, 3, none⟩ = some (.slice a n cap) := (hb2.cell (by simp)).trans (by simp)
          have q1 := next (o := 1) hb2 (next (by go_grown) k1)
          clear hb2
          cases h4 : x.fields.all slotB with
          | false =>
            have HNO : Hid (treeErr (checkB p) = 30) := by
              have hx : classB x = false := (by simp [classB, classTop, h4])
              show treeErr (checkB p) = 30
              unfold checkB
              rw [all_false HX.out hx]; simp [treeErr]
            go_wp2
            go_ret
            refine ⟨by rw [HNO.out]; rfl, ?_⟩
            exact HBI.out
          | true =>
            have HCT : Hid (classTop x = true) := by show classTop x = true; simp [classTop, *]
            go_wp2
            go_loopw [38] (fun v38 w' => ∃ k : Nat, k ≤ n ∧ v38 = .int .i64 k ∧ Hid ((x.methods.take k).all methodB = true) ∧ Hid (Below w.heap.size w w') ∧ w'.cell? ⟨w.heap.size, 1, none⟩ = some (.slice ma mn mcap)) (fun v38 _ => n - (intOf v38).toNat)
            case atStart => exact ⟨0, by omega, rfl, rfl, HBI, q1⟩
            case round =>
              clear k1
              obtain ⟨k, hk, rfl, HGK, HBR, k1⟩ := hrel
              by_cases hlt2 : k < n
              · obtain ⟨y, hy⟩ : ∃ y, x.methods[k]? = some y := ⟨_, List.getElem?_eq_getElem (by rw [HN2.out]; exact hlt2)⟩
                have HY := Lib.hid hy
                clear hy
                obtain ⟨b', off', cs', rfl, hbl', hc, pv, bv, rfl, wt, ws, hpv, hbv⟩ := H2.out k _ HY.out
                have HPV := Lib.hid hpv
                have HBV := Lib.hid hbv
                obtain ⟨pa, pn, pcap, rfl, hpn, hpc, hpm, -⟩ := hpv
                obtain ⟨ba, bn, bcap, rfl⟩ := RSl.shape hbv
                obtain ⟨e0, e1, e2, e3, -⟩ := cellsAt_of_block (HBR.out.block b' hbl') hc
                have HPN := Lib.hid hpn
                unfold maxC at hpm
                have HBA : Hid (∀ X, Below w.heap.size w (wr.alloc X)) := fun X => HBR.out.alloc HBR.out.size X
                clear hbv hc hpn
                go_wp2_with fail
                refine (refType_any _ wt _).mono ?_
                rintro e w' ⟨rfl, rfl⟩
                cases h1 : isTypeB y.type with
                | false =>
                  have HBE : Hid (∀ X, Below w.heap.size w (wr.alloc X)) := HBA
                  have HNO : Hid (treeErr (checkB p) = 30) := by
                    have hx : classB x = false := (by have hm : methodB y = false := (by simp [methodB, slotB, h1]); unfold classB; rw [all_false HY.out hm]; simp)
                    show treeErr (checkB p) = 30
                    unfold checkB
                    rw [all_false HX.out hx]; simp [treeErr]
                  go_wp2
                  go_ret
                  refine ⟨by rw [HNO.out]; rfl, ?_⟩
                  exact HBE.out _
                | true =>
                  go_wp2_with fail
                  refine (refIsName_any _ ws _).mono ?_
                  rintro e w' ⟨rfl, rfl⟩
                  cases h2 : isNameB y.name with
                  | false =>
                    have HBE : Hid (∀ X, Below w.heap.size w (wr.alloc X)) := HBA
                    have HNO : Hid (treeErr (checkB p) = 30) := by
                      have hx : classB x = false := (by have hm : methodB y = false := (by simp [methodB, slotB, h2]); unfold classB; rw [all_false HY.out hm]; simp)
                      show treeErr (checkB p) = 30
                      unfold checkB
                      rw [all_false HX.out hx]; simp [treeErr]
                    go_wp2
                    go_ret
                    refine ⟨by rw [HNO.out]; rfl, ?_⟩
                    exact HBE.out _
                  | true =>
                    by_cases hp4 : pn ≤ 4
                    · have HP4 : Hid (decide (y.params.length ≤ 4) = true) := by show decide _ = true; rw [HPN.out]; simp [hp4]
                      go_wp2_with fail
                      refine (maySlots_any _ _ y.params (HPV.out.mono (fun k hk => Nat.lt_of_lt_of_le hk (HBA.out _).size) (fun k hk => (HBA.out _).block k hk))).mono ?_
                      rintro e w2 ⟨rfl, hb2⟩
                      have HBE : Hid (Below w.heap.size w w2) := afterCall (HBA.out _) hb2
                      have q3 : w2.cell? ⟨wr.heap.size, 3, none⟩ = some (.slice ba bn bcap) := (hb2.cell (by simp)).trans (by simp)
                      have s0 := next (o := 1) hb2 (next (by go_grown) k1)
                      clear hb2 HBA
                      cases h3 : y.params.all slotB with
                      | false =>
                        have HNO : Hid (treeErr (checkB p) = 30) := by
                          have hx : classB x = false := (by have hm : methodB y = false := (by simp [methodB, h3]); unfold classB; rw [all_false HY.out hm]; simp)
                          show treeErr (checkB p) = 30
                          unfold checkB
                          rw [all_false HX.out hx]; simp [treeErr]
                        go_wp2
                        go_ret
                        refine ⟨by rw [HNO.out]; rfl, ?_⟩
                        exact HBE.out
                      | true =>
                        go_wp2_with fail
                        refine (mayStmts_any d w2 _ y.body (HBV.out.mono (fun k hk => Nat.lt_of_lt_of_le hk HBE.out.size) (fun k hk => HBE.out.block k hk))).mono ?_
                        rintro e w3 ⟨rfl, hb3⟩
                        have HBE1 := HBE
                        clear HBE
                        have HBE := nextB hb3 HBE1
                        have s1 := next (o := 1) hb3 s0
                        clear hb3 q3 HBE1 s0
                        cases h4 : y.body.all stmtB with
                        | false =>
                          have HNO : Hid (treeErr (checkB p) = 30) := by
                            have hx : classB x = false := (by have hm : methodB y = false := (by simp [methodB, h4]); unfold classB; rw [all_false HY.out hm]; simp)
                            show treeErr (checkB p) = 30
                            unfold checkB
                            rw [all_false HX.out hx]; simp [treeErr]
                          go_wp2
                          go_ret
                          refine ⟨by rw [HNO.out]; rfl, ?_⟩
                          exact HBE.out
                        | true =>
                          have HGN : Hid ((x.methods.take (k + 1)).all methodB = true) := by
                            show (x.methods.take (k + 1)).all methodB = true
                            rw [all_take_succ HY.out, HGK.out]
                            have h5 := HP4.out
                            unfold methodB; rw [h5]; simp [slotB, h1, h2, h3, h4]
                          go_wp2
                          refine ⟨?_, by simp [intOf]; omega⟩
                          first
                            | exact ⟨k + 1, by omega, by go_num, HGN, HBE, s1⟩
                            | ((repeat apply Exists.intro)
                               refine ⟨⟨k + 1, by omega, ?_, HGN, HBE, s1⟩, rfl⟩
                               go_num)
                    · have hgt : 4 < pn := by omega
                      have HBE : Hid (∀ X, Below w.heap.size w (wr.alloc X)) := HBA
                      have h5 : decide (y.params.length ≤ 4) = false := by rw [HPN.out]; simp; omega
                      have hm0 : methodB y = false := by unfold methodB; rw [h5]; simp
                      clear h5
                      have HNO : Hid (treeErr (checkB p) = 30) := by
                        have hx : classB x = false := (by unfold classB; rw [all_false HY.out hm0]; simp)
                        show treeErr (checkB p) = 30
                        unfold checkB
                        rw [all_false HX.out hx]; simp [treeErr]
                      go_wp2
                      go_ret
                      refine ⟨by rw [HNO.out]; rfl, ?_⟩
                      exact HBE.out _
              · obtain rfl : k = n := by omega
                have et := List.take_of_length_le (l := x.methods) (i := k) (by rw [HN2.out]; exact Nat.le_refl _)
                have HGN : Hid ((p.classes.take (j + 1)).all classB = true) := by
                  show (p.classes.take (j + 1)).all classB = true
                  have h5 := HGK.out
                  rw [et] at h5
                  rw [all_take_succ HX.out, HGJ.out]
                  simp only [classB, h5, HCT.out]; rfl
                clear et
                go_wp2
                refine ⟨?_, by simp [intOf]; omega⟩
                first
                  | exact ⟨j + 1, by omega, by go_num, HGN, HBR, k1⟩
                  | ((repeat apply Exists.intro)
                     refine ⟨⟨j + 1, by omega, ?_, HGN, HBR, k1⟩, rfl⟩
                     go_num)
        | false =>
          have h2' : (!x.super.toList.isEmpty) = true := by rw [h2]; rfl
          go_wp2_with fail
          refine (refIsName_any _ wu _).mono ?_
          rintro e w' ⟨rfl, rfl⟩
          cases h3 : isNameB x.super with
          | false =>
            have HNO : Hid (treeErr (checkB p) = 30) := by
              have hx : classB x = false := (by simp only [classB, classTop, h2, h3]; simp)
              show treeErr (checkB p) = 30
              unfold checkB
              rw [all_false HX.out hx]; simp [treeErr]
            go_wp2
            go_ret
            refine ⟨by rw [HNO.out]; rfl, ?_⟩
            exact HBA.out _
          | true =>
            go_wp2_with fail
            refine (maySlots_any _ _ x.fields (HF.out.mono (fun k hk => Nat.lt_of_lt_of_le hk (HBA.out _).size) (fun k hk => (HBA.out _).block k hk))).mono ?_
            rintro e w2 ⟨rfl, hb2⟩
            have HBI : Hid (Below w.heap.size w w2) := afterCall (HBA.out _) hb2
            have q3 : w2.cell? ⟨wo.heap.size, 3, none⟩ = some (.slice a n cap) := (hb2.cell (by simp)).trans (by simp)
            have q1 := next (o := 1) hb2 (next (by go_grown) k1)
            clear hb2
            cases h4 : x.fields.all slotB with
            | false =>
              have HNO : Hid (treeErr (checkB p) = 30) := by
                have hx : classB x = false := (by simp [classB, classTop, h4])
                show treeErr (checkB p) = 30
                unfold checkB
                rw [all_false HX.out hx]; simp [treeErr]
              go_wp2
              go_ret
              refine ⟨by rw [HNO.out]; rfl, ?_⟩
              exact HBI.out
            | true =>
              have HCT : Hid (classTop x = true) := by show classTop x = true; simp [classTop, *]
              go_wp2
              go_loopw [38] (fun v38 w' => ∃ k : Nat, k ≤ n ∧ v38 = .int .i64 k ∧ Hid ((x.methods.take k).all methodB = true) ∧ Hid (Below w.heap.size w w') ∧ w'.cell? ⟨w.heap.size, 1, none⟩ = some (.slice ma mn mcap)) (fun v38 _ => n - (intOf v38).toNat)
              case atStart => exact ⟨0, by omega, rfl, rfl, HBI, q1⟩
              case round =>
                clear k1
                obtain ⟨k, hk, rfl, HGK, HBR, k1⟩ := hrel
                by_cases hlt2 : k < n
                · obtain ⟨y, hy⟩ : ∃ y, x.methods[k]? = some y := ⟨_, List.getElem?_eq_getElem (by rw [HN2.out]; exact hlt2)⟩
                  have HY := Lib.hid hy
                  clear hy
                  obtain ⟨b', off', cs', rfl, hbl', hc, pv, bv, rfl, wt, ws, hpv, hbv⟩ := H2.out k _ HY.out
                  have HPV := Lib.hid hpv
                  have HBV := Lib.hid hbv
                  obtain ⟨pa, pn, pcap, rfl, hpn, hpc, hpm, -⟩ := hpv
                  obtain ⟨ba, bn, bcap, rfl⟩ := RSl.shape hbv
                  obtain ⟨e0, e1, e2, e3, -⟩ := cellsAt_of_block (HBR.out.block b' hbl') hc
                  have HPN := Lib.hid hpn
                  unfold maxC at hpm
                  have HBA : Hid (∀ X, Below w.heap.size w (wr.alloc X)) := fun X => HBR.out.alloc HBR.out.size X
                  clear hbv hc hpn
                  go_wp2_with fail
                  refine (refType_any _ wt _).mono ?_
                  rintro e w' ⟨rfl, rfl⟩
                  cases h1 : isTypeB y.type with
                  | false =>
                    have HBE : Hid (∀ X, Below w.heap.size w (wr.alloc X)) := HBA
                    have HNO : Hid (treeErr (checkB p) = 30) := by
                      have hx : classB x = false := (by have hm : methodB y = false := (by simp [methodB, slotB, h1]); unfold classB; rw [all_false HY.out hm]; simp)
                      show treeErr (checkB p) = 30
                      unfold checkB
                      rw [all_false HX.out hx]; simp [treeErr]
                    go_wp2
                    go_ret
                    refine ⟨by rw [HNO.out]; rfl, ?_⟩
                    exact HBE.out _
                  | true =>
                    go_wp2_with fail
                    refine (refIsName_any _ ws _).mono ?_
                    rintro e w' ⟨rfl, rfl⟩
                    cases h2 : isNameB y.name with
                    | false =>
                      have HBE : Hid (∀ X, Below w.heap.size w (wr.alloc X)) := HBA
                      have HNO : Hid (treeErr (checkB p) = 30) := by
                        have hx : classB x = false := (by have hm : methodB y = false := (by simp [methodB, slotB, h2]); unfold classB; rw [all_false HY.out hm]; simp)
                        show treeErr (checkB p) = 30
                        unfold checkB
                        rw [all_false HX.out hx]; simp [treeErr]
                      go_wp2
                      go_ret
                      refine ⟨by rw [HNO.out]; rfl, ?_⟩
                      exact HBE.out _
                    | true =>
                      by_cases hp4 : pn ≤ 4
                      · have HP4 : Hid (decide (y.params.length ≤ 4) = true) := by show decide _ = true; rw [HPN.out]; simp [hp4]
                        go_wp2_with fail
                        refine (maySlots_any _ _ y.params (HPV.out.mono (fun k hk => Nat.lt_of_lt_of_le hk (HBA.out _).size) (fun k hk => (HBA.out _).block k hk))).mono ?_
                        rintro e w2 ⟨rfl, hb2⟩
                        have HBE : Hid (Below w.heap.size w w2) := afterCall (HBA.out _) hb2
                        have q3 : w2.cell? ⟨wr.heap.size, 3, none⟩ = some (.slice ba bn bcap) := (hb2.cell (by simp)).trans (by simp)
                        have s0 := next (o := 1) hb2 (next (by go_grown) k1)
                        clear hb2 HBA
                        cases h3 : y.params.all slotB with
                        | false =>
                          have HNO : Hid (treeErr (checkB p) = 30) := by
                            have hx : classB x = false := (by have hm : methodB y = false := (by simp [methodB, h3]); unfold classB; rw [all_false HY.out hm]; simp)
                            show treeErr (checkB p) = 30
                            unfold checkB
                            rw [all_false HX.out hx]; simp [treeErr]
                          go_wp2
                          go_ret
                          refine ⟨by rw [HNO.out]; rfl, ?_⟩
                          exact HBE.out
                        | true =>
                          go_wp2_with fail
                          refine (mayStmts_any d w2 _ y.body (HBV.out.mono (fun k hk => Nat.lt_of_lt_of_le hk HBE.out.size) (fun k hk => HBE.out.block k hk))).mono ?_
                          rintro e w3 ⟨rfl, hb3⟩
                          have HBE1 := HBE
                          clear HBE
                          have HBE := nextB hb3 HBE1
                          have s1 := next (o := 1) hb3 s0
                          clear hb3 q3 HBE1 s0
                          cases h4 : y.body.all stmtB with
                          | false =>
                            have HNO : Hid (treeErr (checkB p) = 30) := by
                              have hx : classB x = false := (by have hm : methodB y = false := (by simp [methodB, h4]); unfold classB; rw [all_false HY.out hm]; simp)
                              show treeErr (checkB p) = 30
                              unfold checkB
                              rw [all_false HX.out hx]; simp [treeErr]
                            go_wp2
                            go_ret
                            refine ⟨by rw [HNO.out]; rfl, ?_⟩
                            exact HBE.out
                          | true =>
                            have HGN : Hid ((x.methods.take (k + 1)).all methodB = true) := by
                              show (x.methods.take (k + 1)).all methodB = true
                              rw [all_take_succ HY.out, HGK.out]
                              have h5 := HP4.out
                              unfold methodB; rw [h5]; simp [slotB, h1, h2, h3, h4]
                            go_wp2
                            refine ⟨?_, by simp [intOf]; omega⟩
                            first
                              | exact ⟨k + 1, by omega, by go_num, HGN, HBE, s1⟩
                              | ((repeat apply Exists.intro)
                                 refine ⟨⟨k + 1, by omega, ?_, HGN, HBE, s1⟩, rfl⟩
                                 go_num)
                      · have hgt : 4 < pn := by omega
                        have HBE : Hid (∀ X, Below w.heap.size w (wr.alloc X)) := HBA
                        have h5 : decide (y.params.length ≤ 4) = false := by rw [HPN.out]; simp; omega
                        have hm0 : methodB y = false := by unfold methodB; rw [h5]; simp
                        clear h5
                        have HNO : Hid (treeErr (checkB p) = 30) := by
                          have hx : classB x = false := (by unfold classB; rw [all_false HY.out hm0]; simp)
                          show treeErr (checkB p) = 30
                          unfold checkB
                          rw [all_false HX.out hx]; simp [treeErr]
                        go_wp2
                        go_ret
                        refine ⟨by rw [HNO.out]; rfl, ?_⟩
                        exact HBE.out _
                · obtain rfl : k = n := by omega
                  have et := List.take_of_length_le (l := x.methods) (i := k) (by rw [HN2.out]; exact Nat.le_refl _)
                  have HGN : Hid ((p.classes.take (j + 1)).all classB = true) := by
                    show (p.classes.take (j + 1)).all classB = true
                    have h5 := HGK.out
                    rw [et] at h5
                    rw [all_take_succ HX.out, HGJ.out]
                    simp only [classB, h5, HCT.out]; rfl
                  clear et
                  go_wp2
                  refine ⟨?_, by simp [intOf]; omega⟩
                  first
                    | exact ⟨j + 1, by omega, by go_num, HGN, HBR, k1⟩
                    | ((repeat apply Exists.intro)
                       refine ⟨⟨j + 1, by omega, ?_, HGN, HBR, k1⟩, rfl⟩
                       go_num)
    · obtain rfl : j = cn := by omega
      have et := List.take_of_length_le (l := p.classes) (i := j) (by rw [HN.out]; exact Nat.le_refl _)
      have HE : Hid (checkB p = p.main.all stmtB) := by
        have h5 := HGJ.out
        rw [et] at h5
        show checkB p = _
        unfold checkB; rw [h5]; simp
      clear et
      go_wp2_with fail
      refine (mayStmts_any d _ _ p.main (HS.out.mono (fun k hk => Nat.lt_of_lt_of_le hk HB.out.size) (fun k hk => HB.out.block k hk))).mono ?_
      rintro e w2 ⟨rfl, hb2⟩
      have HB2 := nextB hb2 HB
      clear hb2
      cases hq : p.main.all stmtB with
      | false =>
        go_wp2
        go_ret
        exact ⟨by rw [HE.out, hq]; rfl, HB2.out⟩
      | true =>
        go_wp2
        go_ret
        exact ⟨by rw [HE.out, hq]; rfl, HB2.out⟩
end Go.Proofs.Ythhpcjoaogmhbaa
end
section
namespace Go.Proofs.Ythhpcjoaogmhbaa
open Go.RowKit
theorem cls_named (nm su : ByteArray) (fv mv : Value) (nb : Nat) (name : ByteArray) (w : World) (hn : w.cell? ⟨nb, 0, none⟩ = some (.string name)) :
    Calls Try.prog 63 #[.agg #[.string nm, .string su, fv, mv], .pointer (some ⟨nb, 0, none⟩)] w fun e w' => e = .returned (.bool (nm.toList == name.toList)) ∧ Below w.heap.size w w' := by
  have hlt := cell_lt hn
  have hlt : nb < w.heap.size := hlt
  have hne : ¬ nb = w.heap.size := by omega
  go_enter Try.func63, Try.ntmps63
  go_wp2
  go_ret
  exact ⟨rfl, by go_grown⟩
theorem indexClass_any {α : Type} (R : List Value → α → Prop) (l : List α) (p : α → Bool) (g : FuncId) (c : Nat) (v : Value) (w : World) (hg : ∀ args W, (callFunc g args).run Try.prog W = .ok (.enter g args) W) (hlen : ∀ cs x, R cs x → cs.length = 4) (hv : RSl 4 R w (· < w.heap.size) v l)
    (HF : Hid (∀ (W : World) cs x, Below w.heap.size w W → x ∈ l → R cs x → Calls Try.prog g #[.agg cs.toArray, .pointer (some ⟨c, 0, none⟩)] W fun e w' => e = .returned (.bool (p x)) ∧ Below W.heap.size W w')) :
    Calls Try.prog 34 #[v, .func (.func g) #[] #[.pointer (some ⟨c, 0, none⟩)]] w fun e w' => e = .returned (.int .i64 (idxB p l)) ∧ Below w.heap.size w w' := by
  obtain ⟨a, n, cap, rfl, hn, hcap, hmax, hel⟩ := hv
  have H := Lib.hid hel
  have HN := Lib.hid hn
  have HL := Lib.hid hlen
  unfold maxC at hmax
  clear hel hn hlen
  go_enter Try.func34, Try.ntmps34
  go_wp2
  go_loopw [8] (fun v8 w' => ∃ j : Nat, j ≤ n ∧ v8 = .int .i64 j ∧ Hid (∀ y ∈ l.take j, p y = false) ∧ Hid (Below w.heap.size w w')) (fun v8 _ => n - (intOf v8).toNat)
  case atStart => exact ⟨0, by omega, rfl, (by show ∀ y ∈ l.take 0, p y = false; simp), Below.refl _ _⟩
  case round =>
    obtain ⟨j, hj, rfl, HP, HB⟩ := hrel
    by_cases hlt : j < n
    · obtain ⟨x, hx⟩ : ∃ x, l[j]? = some x := ⟨_, List.getElem?_eq_getElem (by rw [HN.out]; exact hlt)⟩
      have HX := Lib.hid hx
      clear hx
      obtain ⟨b, off, cs, rfl, hbl, hc, hr⟩ := H.out j _ HX.out
      obtain ⟨u0, u1, u2, u3, rfl⟩ := len4 (HL.out _ _ hr)
      have HR := Lib.hid hr
      have HC := cellsAt_of_block (HB.out.block b hbl) hc
      simp only [cellsAt, and_true] at HC
      obtain ⟨c0, c1, c2, c3⟩ := HC
      clear hc hr
      go_wp2_with fail
      refine (HF.out _ _ _ HB.out (List.mem_of_getElem? HX.out) HR.out).mono ?_
      rintro e w1 ⟨rfl, hb1⟩
      have HB1 : Hid (Below w.heap.size w w1) := HB.out.trans (hb1.mono HB.out.size)
      clear hb1
      cases hp : p x with
      | true =>
        go_wp2
        go_ret
        exact ⟨by rw [idxB_hit p l j x HX.out hp HP.out]; rfl, HB1.out⟩
      | false =>
        go_wp2
        refine ⟨⟨j + 1, by omega, by go_num, ?_, HB1⟩, by simp [intOf]; omega⟩
        show ∀ y ∈ l.take (j + 1), p y = false
        rw [List.take_add_one, HX.out]
        intro y hy
        simp only [Option.toList_some, List.mem_append, List.mem_singleton] at hy
        rcases hy with hy | rfl
        · exact HP.out y hy
        · exact hp
    · obtain rfl : j = n := by omega
      have et := List.take_of_length_le (l := l) (i := j) (by rw [HN.out]; exact Nat.le_refl _)
      have HE : Hid (idxB p l = -1) := idxB_none p l (by have := HP.out; rw [et] at this; exact this)
      clear et
      go_wp2
      go_ret
      exact ⟨by rw [HE.out]; rfl, HB.out⟩
def namedB (name : ByteArray) (c : Class) : Bool := c.name.toList == name.toList
theorem indexNamed (d : Nat) (cv : Value) (l : List Class) (name : ByteArray) (nb : Nat) (w : World) (hv : RClasses d w (· < w.heap.size) cv l) (hn : w.cell? ⟨nb, 0, none⟩ = some (.string name)) :
    Calls Try.prog 34 #[cv, .func (.func 63) #[] #[.pointer (some ⟨nb, 0, none⟩)]] w fun e w' => e = .returned (.int .i64 (idxB (namedB name) l)) ∧ Below w.heap.size w w' := by
  refine indexClass_any (RClass d w (· < w.heap.size)) l (namedB name) _ nb cv w (fun _ _ => by kernel_rfl) (fun cs x h => by obtain ⟨fv, mv, rfl, -⟩ := h; rfl) hv (fun W cs x hb _ hr => ?_)
  obtain ⟨fv, mv, rfl, -⟩ := hr
  exact cls_named _ _ _ _ _ _ _ (next hb hn)
end Go.Proofs.Ythhpcjoaogmhbaa
end
section
namespace Go.Proofs.Ythhpcjoaogmhbaa
open Go.RowKit
structure Own (w0 wr : World) (e : TypeId) (sz : Nat) (v : Value) (n : Nat) (cells : List Value) : Prop where
  below : Below w0.heap.size w0 wr
  own : wr.ownsRow w0.heap.size e sz v n cells
theorem Own.start (w0 : World) (e : TypeId) (sz : Nat) : Own w0 w0 e sz (.slice none 0 0) 0 [] := ⟨Below.refl _ _, World.ownsRow_nil _ _ _ _⟩
section
variable {w0 wr w1 : World} {e : TypeId} {sz n : Nat} {v : Value} {cells : List Value}
theorem Own.more (h : Own w0 wr e sz v n cells) (hb : Below wr.heap.size wr w1) : Own w0 w1 e sz v n cells :=
  ⟨h.below.trans (hb.mono h.below.size), h.own.kept (row := none) ⟨hb.os, hb.tape, hb.output, hb.size, fun k hk _ => hb.block k hk⟩ (by
    cases hq : v.ownBlock with
    | none => exact .inl rfl
    | some b => exact .inr (by simp))⟩
theorem Own.alloc (h : Own w0 wr e sz v n cells) (o : Obj) : Own w0 (wr.alloc o) e sz v n cells := h.more ((Below.refl _ _).alloc (Nat.le_refl _) _)
theorem Own.shape (h : Own w0 wr e sz v n cells) : ∃ a cap, v = .slice a n cap := by
  rcases h.own.2 with ⟨h1, h2⟩ | ⟨g, cap, cur, h1, -⟩
  · exact ⟨none, 0, by rw [h1, h2]⟩
  · exact ⟨_, cap, h1⟩
theorem Own.len (h : Own w0 wr e sz v n cells) : cells.length = n * sz := h.own.1
end
end Go.Proofs.Ythhpcjoaogmhbaa
end
section
namespace Go.Proofs.Ythhpcjoaogmhbaa
open Go.RowKit
def RStrs (w : World) (v : Value) (l : List ByteArray) : Prop :=
  ∃ a n cap, v = .slice a n cap ∧ l.length = n ∧ n ≤ 9223372036854775807 ∧ ∀ i x, l[i]? = some x → ∃ b off, a = some ⟨b, off, none⟩ ∧ b < w.heap.size ∧ w.cell? ⟨b, off + i, none⟩ = some (.string x)
theorem RStrs.below {w w' : World} {v : Value} {l : List ByteArray} (h : RStrs w v l) (hb : Below w.heap.size w w') : RStrs w' v l := by
  obtain ⟨a, n, cap, h1, h2, h3, h4⟩ := h
  refine ⟨a, n, cap, h1, h2, h3, fun i x hx => ?_⟩
  obtain ⟨b, off, ha, hlt, hc⟩ := h4 i x hx
  exact ⟨b, off, ha, Nat.lt_of_lt_of_le hlt hb.size, (hb.cell (p := ⟨b, off + i, none⟩) hlt).trans hc⟩
def namesL (l : List Slot) : List ByteArray := l.map (·.name)
theorem namesL_take {l : List Slot} {j : Nat} {x : Slot} (hx : l[j]? = some x) : namesL (l.take (j + 1)) = namesL (l.take j) ++ [x.name] := by
  unfold namesL; rw [List.take_add_one, hx]; simp
end Go.Proofs.Ythhpcjoaogmhbaa
end
section
namespace Go.Proofs.Ythhpcjoaogmhbaa
open Go.RowKit
abbrev Bytes := List UInt8
theorem keyedStr : Maps.Keyed Try.prog 9 := Maps.string_keyed Try.underlying9
theorem zeroInt (w : World) : (zeroValue 3).run Try.prog w = .ok (.int .i64 0) w := by kernel_rfl
theorem isKey_str (s : Bytes) : WideAt.IsKeyLit (.string s) := by simp [WideAt.IsKeyLit]
theorem key_str {s : ByteArray} (h : s.size ≤ maxLen) : keyOf Try.prog 9 (.string s) = some (.string s.data.toList) := WideMaps.keyOf_string_mk Try.underlying9 h
def firsts (l : List Bytes) : List Bytes := l.foldl (fun a x => if x ∈ a then a else a ++ [x]) []
theorem firsts_snoc (l : List Bytes) (x : Bytes) : firsts (l ++ [x]) = if x ∈ firsts l then firsts l else firsts l ++ [x] := by
  unfold firsts
  rw [List.foldl_append]
  rfl
theorem firsts_facts : ∀ l : List Bytes, (firsts l.reverse).Nodup ∧ (∀ x, x ∈ firsts l.reverse ↔ x ∈ l.reverse) ∧ (firsts l.reverse).length ≤ l.reverse.length ∧ ((firsts l.reverse).length = l.reverse.length ↔ l.reverse.Nodup)
  | [] => by simp [firsts]
  | x :: l => by
    obtain ⟨h1, h2, h3, h4⟩ := firsts_facts l
    rw [List.reverse_cons, firsts_snoc]
    by_cases hx : x ∈ firsts l.reverse
    · rw [if_pos hx]
      refine ⟨h1, fun y => ?_, by rw [List.length_append]; omega, ?_⟩
      · rw [h2, List.mem_append]
        constructor
        · exact .inl
        · rintro (h | h)
          · exact h
          · rw [List.mem_singleton.1 h]; exact (h2 x).1 hx
      · rw [List.length_append, List.nodup_append]
        constructor
        · intro h; simp at h; simp at h3; omega
        · rintro ⟨-, -, h⟩
          exact absurd rfl (h x ((h2 x).1 hx) x (by simp))
    · rw [if_neg hx]
      have hx2 : x ∉ l.reverse := fun h => hx ((h2 x).2 h)
      refine ⟨?_, fun y => by rw [List.mem_append, List.mem_append, h2], by rw [List.length_append, List.length_append]; omega, ?_⟩
      · rw [List.nodup_append]
        exact ⟨h1, by simp, fun a ha b hb => by rw [List.mem_singleton.1 hb]; rintro rfl; exact hx ha⟩
      · rw [List.length_append, List.length_append, List.nodup_append]
        constructor
        · intro h
          refine ⟨h4.1 (by simpa using h), by simp, fun a ha b hb => by rw [List.mem_singleton.1 hb]; rintro rfl; exact hx2 ha⟩
        · rintro ⟨h, -, -⟩
          have := h4.2 h
          omega
theorem firsts_all (l : List Bytes) : (firsts l).Nodup ∧ (∀ x, x ∈ firsts l ↔ x ∈ l) ∧ (firsts l).length ≤ l.length ∧ ((firsts l).length = l.length ↔ l.Nodup) := by
  have h := firsts_facts l.reverse
  rwa [List.reverse_reverse] at h
structure MK (w : World) (b n : Nat) (l : List Bytes) : Prop where
  own : ∃ D : DataW Unit, w.ownsMap Try.prog 9 (plainElem Try.prog 3) b n D ∧ (∀ s, Maps.has D (.string s) = decide (s ∈ l)) ∧ Maps.size D = (firsts l).length
theorem MK.made (w : World) : MK (w.alloc (.map #[] 0)) w.heap.size 0 [] :=
  ⟨.map [], World.ownsMap_made _ _ _ _, fun _ => rfl, rfl⟩
theorem MK.look {w : World} {b n : Nat} {l : List Bytes} (h : MK w b n l) {s : ByteArray} (hs : s.size ≤ maxLen) : ∃ c, (Instr.lookup 58 (.map (some b)) (.string s) false).run Try.prog w = .ok (.int .i64 c) w := by
  obtain ⟨D, h, -⟩ := h.own
  obtain ⟨c, hrun, -, -⟩ := h.lookup_int keyedStr Try.underlying58 Try.underlying3 (zeroInt w) (key_str hs)
  exact ⟨c, hrun⟩
theorem MK.put {w : World} {b n : Nat} {l : List Bytes} (h : MK w b n l) (hn : n < maxLen) {s : ByteArray} (hs : s.size ≤ maxLen) {c : Int} (hc : (Lit.int .i64 c).wf = true) :
    ∃ w', (Instr.mapUpdate 58 (.map (some b)) (.string s) (.int .i64 c)).run Try.prog w = .ok () w' ∧ MK w' b (n + 1) (l ++ [s.data.toList]) ∧ w.grownBy w' (some b) := by
  obtain ⟨D, h, hh, hsz⟩ := h.own
  have ht := h.tidy keyedStr
  obtain ⟨w', hrun, h1, h2⟩ := h.update keyedStr Try.underlying58 hn (key_str hs) (plainElem_int Try.underlying3 hc)
  refine ⟨w', hrun, ⟨_, h1, fun q => ?_, ?_⟩, h2⟩
  · by_cases e : q = s.data.toList
    · subst e; rw [Maps.has_put_same h.isMap (isKey_str _)]; simp
    · have hne : Lit.string q ≠ Lit.string s.data.toList := fun hq => e (by injection hq)
      rw [Maps.has_put_other hne, hh q]
      simp [e]
  · rw [Maps.size_put ht, hh, hsz, firsts_snoc]
    have hm := (firsts_all l).2.1 s.data.toList
    by_cases hx : s.data.toList ∈ l
    · rw [if_pos (hm.2 hx)]; simp [hx]
    · rw [if_neg (fun k => hx (hm.1 k))]; simp [hx]
theorem MK.len {w : World} {b n : Nat} {l : List Bytes} (h : MK w b n l) (ty : TypeId) : (Builtin.len_ #[58] ty #[.map (some b)]).run Try.prog w = .ok (.int .i64 ((firsts l).length : Nat)) w := by
  obtain ⟨D, h, -, hsz⟩ := h.own
  rw [h.len Try.underlying58 ty, hsz]
def onceB (l : List ByteArray) : Bool := decide ((l.map fun s => s.data.toList).Nodup)
set_option maxHeartbeats 1000000 in
theorem once_any (v : Value) (l : List ByteArray) (w : World) (hv : RStrs w v l) (hl : l.length ≤ 1000000000000) (hsz : ∀ s ∈ l, s.size ≤ maxLen) :
    Calls Try.prog 14 #[v] w fun e w' => e = .returned (.bool (onceB l)) ∧ Below w.heap.size w w' := by
  obtain ⟨a, m, cap, rfl, hm, hmax, hel⟩ := hv
  have H := Lib.hid hel
  have HN := Lib.hid hm
  have HS := Lib.hid hsz
  rw [hm] at hl
  clear hel hm hsz
  have hmm := @run_makeMap Try.prog
  have M0 : Hid (MK (w.alloc (.map #[] 0)) w.heap.size 0 ((l.take 0).map fun s => s.data.toList)) := MK.made w
  go_enter Try.func14, Try.ntmps14
  go_wp2
  clear hmm
  go_loopw [9] (fun v9 wr => ∃ j : Nat, j ≤ m ∧ v9 = .int .i64 j ∧ Hid (MK wr w.heap.size j ((l.take j).map fun s => s.data.toList)) ∧ Hid (Below w.heap.size w wr)) (fun v9 _ => m - (intOf v9).toNat)
  case atStart => exact ⟨0, by omega, rfl, M0, (Below.refl _ _).alloc (Nat.le_refl _) _⟩
  case round =>
    clear M0
    obtain ⟨j, hj, rfl, HM, HB⟩ := hrel
    by_cases hlt : j < m
    · obtain ⟨x, hx⟩ : ∃ x, l[j]? = some x := ⟨_, List.getElem?_eq_getElem (by rw [HN.out]; exact hlt)⟩
      obtain ⟨b, off, rfl, hbl, hc⟩ := H.out j _ hx
      have d0 := (HB.out.cell (p := ⟨b, off + j, none⟩) hbl).trans hc
      have hxs := HS.out x (List.mem_of_getElem? hx)
      obtain ⟨c, hlook⟩ := HM.out.look hxs
      obtain ⟨w3, hput, hm3, hg3⟩ := HM.out.put (by unfold maxLen; omega) hxs (c := wrap64 (c + 1)) (RowKit.wrap64_wf _)
      have HM3 : Hid (MK w3 w.heap.size (j + 1) ((l.take (j + 1)).map fun s => s.data.toList)) := by
        show MK w3 w.heap.size (j + 1) ((l.take (j + 1)).map fun s => s.data.toList)
        rw [List.take_add_one, hx]
        simpa using hm3
      have HB3 : Hid (Below w.heap.size w w3) := HB.out.grown hg3 HB.out.size (fun q hq => by cases hq; exact Nat.le_refl _)
      clear hx hc hbl hm3 hg3 hxs
      go_wp2
      exact ⟨⟨j + 1, by omega, by go_num, HM3, HB3⟩, by simp [intOf]; omega⟩
    · obtain rfl : m = j := by omega
      have hlen := HM.out.len 3
      rw [List.take_of_length_le (by rw [HN.out]; exact Nat.le_refl _)] at hlen
      have hf := firsts_all (l.map fun s => s.data.toList)
      rw [List.length_map, HN.out] at hf
      have HF : Hid (onceB l = decide ((firsts (l.map fun s => s.data.toList)).length = m)) := by
        show onceB l = _
        unfold onceB
        exact decide_eq_decide.2 hf.2.2.2.symm
      generalize hq : (firsts (l.map fun s => s.data.toList)).length = q at *
      clear hf hq
      go_wp2
      go_ret
      refine ⟨?_, HB.out⟩
      rw [HF.out]
      exact ret_bool (by rw [Bool.eq_iff_iff]; simp; omega)
end Go.Proofs.Ythhpcjoaogmhbaa
end
section
namespace Go.Proofs.Ythhpcjoaogmhbaa
open Go.RowKit
def typesOf (l : List Slot) : List Bytes := l.map fun s => s.type.toList
theorem typesOf_at {l : List Slot} {k : Nat} {x : Slot} (h : l[k]? = some x) : (typesOf l)[k]? = some x.type.toList := by simp [typesOf, h]
theorem typesOf_len (l : List Slot) : (typesOf l).length = l.length := by simp [typesOf]
theorem sameType (x y : Slot) (w : World) : Calls Try.prog 65 #[.agg #[.string x.type, .string x.name], .agg #[.string y.type, .string y.name]] w fun e w' => e = .returned (.bool (x.type.toList == y.type.toList)) ∧ Below w.heap.size w w' := by
  go_enter Try.func65, Try.ntmps65
  go_wp2
  go_ret
  exact ⟨rfl, by go_grown⟩
set_option maxHeartbeats 1000000 in
theorem equalTypes (u v : Value) (l m : List Slot) (w : World) (hu : RSlots w (· < w.heap.size) u l) (hv : RSlots w (· < w.heap.size) v m) :
    Calls Try.prog 64 #[u, v, .func (.func 65) #[] #[]] w fun e w' => e = .returned (.bool (decide (typesOf l = typesOf m))) ∧ Below w.heap.size w w' := by
  obtain ⟨a, n, cap, rfl, hn, hcap, hmax, hel⟩ := hu
  obtain ⟨a', n', cap', rfl, hn', hcap', hmax', hel'⟩ := hv
  unfold maxC at hmax hmax'
  have H := Lib.hid hel
  have H' := Lib.hid hel'
  have HN := Lib.hid hn
  have HN' := Lib.hid hn'
  clear hel hel' hn hn'
  by_cases hnn : n = n'
  · subst hnn
    go_enter Try.func64, Try.ntmps64
    go_wp2
    go_loopw [17] (fun v17 wr => ∃ k : Nat, k ≤ n ∧ v17 = .int .i64 k ∧ Hid ((typesOf l).take k = (typesOf m).take k) ∧ Hid (Below w.heap.size w wr)) (fun v17 _ => n - (intOf v17).toNat)
    case atStart => exact ⟨0, by omega, rfl, rfl, Below.refl _ _⟩
    case round =>
      obtain ⟨k, hk, rfl, HQ, HB⟩ := hrel
      by_cases hlt : k < n
      · obtain ⟨x, hx⟩ : ∃ x, l[k]? = some x := ⟨_, List.getElem?_eq_getElem (by rw [HN.out]; exact hlt)⟩
        obtain ⟨y, hy⟩ : ∃ y, m[k]? = some y := ⟨_, List.getElem?_eq_getElem (by rw [HN'.out]; exact hlt)⟩
        have HX := Lib.hid (typesOf_at hx)
        have HY := Lib.hid (typesOf_at hy)
        obtain ⟨b, off, cs, rfl, hb, hc, hr⟩ := H.out k _ hx
        obtain ⟨b', off', cs', rfl, hb', hc', hr'⟩ := H'.out k _ hy
        obtain ⟨rfl, -, -⟩ := hr
        obtain ⟨rfl, -, -⟩ := hr'
        have hc := cellsAt_of_block (HB.out.block b hb) hc
        have hc' := cellsAt_of_block (HB.out.block b' hb') hc'
        obtain ⟨c0, c1, -⟩ := hc
        obtain ⟨c2, c3, -⟩ := hc'
        have hbl : b < wr.heap.size := Nat.lt_of_lt_of_le hb HB.out.size
        have hbl' : b' < wr.heap.size := Nat.lt_of_lt_of_le hb' HB.out.size
        have hkn : (k : Int) < (n : Int) := by omega
        have HBA : Hid (∀ o1 o2, Below w.heap.size w ((wr.alloc o1).alloc o2)) := fun o1 o2 => by
          have b1 := HB.out.alloc HB.out.size o1
          exact b1.alloc b1.size o2
        clear hx hy hb hb'
        go_wp2_with fail
        refine (sameType x y _).mono ?_
        rintro e w2 ⟨rfl, hb2⟩
        have HB2 : Hid (Below w.heap.size w w2) := afterCall (HBA.out _ _) hb2
        clear hb2
        by_cases hxy : x.type.toList = y.type.toList
        · have hq : (x.type.toList == y.type.toList) = true := by simpa using hxy
          have HQ2 : Hid ((typesOf l).take (k + 1) = (typesOf m).take (k + 1)) := by
            show _ = _
            rw [List.take_add_one, List.take_add_one, HX.out, HY.out, HQ.out, hxy]
          rw [hq]
          clear hq hxy
          go_wp2
          exact ⟨⟨k + 1, by omega, by go_num, HQ2, HB2⟩, by simp [intOf]; omega⟩
        · have hq : (x.type.toList == y.type.toList) = false := by simpa using hxy
          have HD : Hid (decide (typesOf l = typesOf m) = false) := by
            show decide (typesOf l = typesOf m) = false
            rw [decide_eq_false_iff_not]
            intro e
            have := HX.out
            rw [e, HY.out] at this
            exact hxy (Option.some.inj this).symm
          rw [hq]
          clear hq hxy
          go_wp2
          go_ret
          exact ⟨by rw [HD.out]; rfl, HB2.out⟩
      · obtain rfl : k = n := by omega
        have HD : Hid (decide (typesOf l = typesOf m) = true) := by
          show decide (typesOf l = typesOf m) = true
          rw [decide_eq_true_iff]
          have h := HQ.out
          rw [List.take_of_length_le (by rw [typesOf_len, HN.out]; exact Nat.le_refl _), List.take_of_length_le (by rw [typesOf_len, HN'.out]; exact Nat.le_refl _)] at h
          exact h
        go_wp2
        go_ret
        exact ⟨by rw [HD.out]; rfl, HB.out⟩
  · have HD : Hid (decide (typesOf l = typesOf m) = false) := by
      show decide (typesOf l = typesOf m) = false
      rw [decide_eq_false_iff_not]
      intro e
      have := congrArg List.length e
      rw [typesOf_len, typesOf_len] at this
      exact hnn (HN.out.symm.trans (this.trans HN'.out))
    go_enter Try.func64, Try.ntmps64
    go_wp2
    all_goals go_ret
    all_goals exact ⟨by rw [HD.out]; rfl, Below.refl _ _⟩
def alikeB (x y : Method) : Bool := (x.type.toList == y.type.toList) && decide (typesOf x.params = typesOf y.params)
theorem alike_any (x y : Method) (cx cy : List Value) (d : Nat) (w : World) (hx : RMethod d w (· < w.heap.size) cx x) (hy : RMethod d w (· < w.heap.size) cy y) :
    Calls Try.prog 40 #[.agg cx.toArray, .agg cy.toArray] w fun e w' => e = .returned (.bool (alikeB x y)) ∧ Below w.heap.size w w' := by
  obtain ⟨pv, bv, rfl, -, -, hp, -⟩ := hx
  obtain ⟨pv', bv', rfl, -, -, hp', -⟩ := hy
  have HP := Lib.hid hp
  have HP' := Lib.hid hp'
  obtain ⟨a, n, c, rfl⟩ := RSl.shape hp
  obtain ⟨a', n', c', rfl⟩ := RSl.shape hp'
  clear hp hp'
  by_cases ht : x.type.toList = y.type.toList
  · have h1 : (x.type.toList == y.type.toList) = true := by simpa using ht
    have HA : Hid (alikeB x y = decide (typesOf x.params = typesOf y.params)) := by show alikeB x y = _; unfold alikeB; rw [h1, Bool.true_and]
    clear ht
    go_enter Try.func40, Try.ntmps40
    go_wp2_with fail
    refine (equalTypes _ _ x.params y.params _ (HP.out.mono (fun b hb => by simp; omega) (fun b hb => ?_)) (HP'.out.mono (fun b hb => by simp; omega) (fun b hb => ?_))).mono ?_
    · exact (((Below.refl w.heap.size w).alloc (Nat.le_refl _) _).alloc (by simp) _).block b hb
    · exact (((Below.refl w.heap.size w).alloc (Nat.le_refl _) _).alloc (by simp) _).block b hb
    rintro e w2 ⟨rfl, hb⟩
    have HB : Hid (Below w.heap.size w w2) := afterCall (by go_grown) hb
    clear hb
    go_wp2
    go_ret
    exact ⟨by rw [HA.out]; rfl, HB.out⟩
  · have h1 : (x.type.toList == y.type.toList) = false := by simpa using ht
    have HA : Hid (alikeB x y = false) := by show alikeB x y = _; unfold alikeB; rw [h1, Bool.false_and]
    clear ht
    go_enter Try.func40, Try.ntmps40
    go_wp2
    go_ret
    exact ⟨by rw [HA.out]; rfl, by go_grown⟩
end Go.Proofs.Ythhpcjoaogmhbaa
end
section
namespace Go.Proofs.Ythhpcjoaogmhbaa
open Go.RowKit Go.Shelf
attribute [local go_sem] Oper.semAt_some
theorem idxB_spec {α : Type} (p : α → Bool) : ∀ (l : List α), 0 ≤ idxB p l → ∃ x, l[(idxB p l).toNat]? = some x ∧ p x = true
  | [], h => by unfold idxB at h; omega
  | y :: l, h => by
    have hge := idxB_ge p l
    unfold idxB at h ⊢
    by_cases hy : p y = true
    · rw [if_pos hy]; exact ⟨y, rfl, hy⟩
    · rw [if_neg hy] at h ⊢
      by_cases h1 : idxB p l = -1
      · rw [if_pos h1] at h; omega
      · rw [if_neg h1]
        obtain ⟨x, hx, hp⟩ := idxB_spec p l (by omega)
        refine ⟨x, ?_, hp⟩
        have e : (idxB p l + 1).toNat = (idxB p l).toNat + 1 := by omega
        rw [e]; simpa using hx
def findJ (cs : List Class) (name : ByteArray) : Option Nat := if 0 ≤ idxB (namedB name) cs then some (idxB (namedB name) cs).toNat else none
def superOf (cs : List Class) (j : Nat) : ByteArray := (cs[j]?.map (·.super)).getD ⟨#[]⟩
def upX (cs : List Class) : Nat → Nat → ByteArray → List (Nat × Nat)
  | 0, _, _ => []
  | k + 1, m, name => match findJ cs name with
    | none => []
    | some j => (m, j) :: upX cs k (m + 1) (superOf cs j)
theorem upX_len (cs : List Class) : ∀ (k m : Nat) (name : ByteArray), (upX cs k m name).length ≤ k
  | 0, _, _ => Nat.le_refl _
  | k + 1, m, name => by
    unfold upX
    cases findJ cs name with
    | none => simp
    | some j => have := upX_len cs k (m + 1) (superOf cs j); simp; omega
abbrev CI (cs : List Class) := { x : Nat × Nat // ∃ c, cs[x.2]? = some c }
def vals {cs : List Class} (l : List (CI cs)) : List (Nat × Nat) := l.map (·.1)
def KpUp (n0 b1 b2 : Nat) (W W' : World) : Prop := Below n0 W W' ∧ W'.heap[b1]? = W.heap[b1]? ∧ W'.heap[b2]? = W.heap[b2]?
theorem KpUp.trans {n0 b1 b2 : Nat} {A B C : World} (h : KpUp n0 b1 b2 A B) (k : KpUp n0 b1 b2 B C) : KpUp n0 b1 b2 A C := ⟨h.1.trans k.1, k.2.1.trans h.2.1, k.2.2.trans h.2.2⟩
theorem up_any (cv mv : Value) (name : ByteArray) (w : World) :
    Calls Try.prog 35 #[.agg #[cv, mv], .string name] w fun e w' => e = .returned (.func (.func 62) #[] #[.pointer (some ⟨w.heap.size, 0, none⟩), .pointer (some ⟨w.heap.size + 1, 0, none⟩)]) ∧ w' = (w.alloc (.cells #[cv, mv] 25)).alloc (.cells #[.string name] 9) := by
  go_enter Try.func35, Try.ntmps35
  go_wp2
  go_ret
  exact ⟨rfl, rfl⟩
end Go.Proofs.Ythhpcjoaogmhbaa
end
section
namespace Go.Proofs.Ythhpcjoaogmhbaa
open Go.RowKit Go
def noDefer (ops : Array Oper) : Bool := ops.all fun o => match o.op with | .defer _ => false | _ => true
theorem noDefer_spec {ops : Array Oper} (h : noDefer ops = true) {i : Nat} {o : Oper} (hi : ops[i]? = some o) (c : Call) : o.op ≠ .defer c := by
  intro e
  have hm := Array.all_eq_true'.1 h o (Array.mem_of_getElem? hi)
  rw [e] at hm
  cases hm
section
variable {P : Go.Program} {l n : Nat} {ops : Array Oper} {Q : Exit → Act → World → Prop} {md : Region.Mode}
theorem rows_round {row : String} {args : Array Value} {w : World} {R : Value → World → Prop} (h : Rows P row args w R) : RowsIn (Fence.wide.inRound l) n P row args w R :=
  fun c cs _ => let ⟨v, w', r, s⟩ := h c cs; ⟨v, w', r, stepsIn_wide.2 s⟩
theorem oper_round {o : Oper} {a : Act} {w : World} {K : Act → World → Prop} (hd : ∀ c, o.op ≠ .defer c) (h : o.wp P a w K Q) : o.wpIn (Fence.wide.inRound l) n P a w K Q := by
  unfold Oper.wp at h
  unfold Oper.wpIn
  refine ⟨fun _ _ => trivial, ?_⟩
  rw [Fence.inRound_round, Oper.semAt_some l a.eval o hd]
  generalize (execOp a.eval o).run P w = r at *
  cases r with
  | ok x w' =>
    cases x with
    | value v => exact h
    | skip => exact h
    | defer d => exact h
    | enter f args => exact ⟨fun k => (by cases k), (callsIn_wide (n := n - 1)).2 h⟩
    | row row args => exact ⟨fun k => (by cases k), rows_round h⟩
    | _ => exact h.elim
  | halt x w' => cases x <;> first | exact h | exact h.elim
theorem wpOp_round {i : Nat} {a : Act} {w : World} {K : Act → World → Prop} (hL : ¬ LetsOut Q) (hd : noDefer ops = true) (h : wpOp P ops Q i K a w) : wpOpIn (Fence.wide.inRound l) n P ops Q i K a w := by
  unfold wpOp at h
  unfold wpOpIn
  cases hi : ops[i]? with
  | none => simp only [hi] at h ⊢; exact h
  | some o =>
    simp only [hi] at h ⊢
    split
    · rename_i hw; simp only [hw, if_true] at h; exact oper_round (noDefer_spec hd hi) (h.resolve_right fun k => hL k.2)
    · rename_i hw; simp only [hw] at h; exact ⟨fun _ _ => trivial, h⟩
theorem wpAny_round (hL : ¬ LetsOut Q) (hd : noDefer ops = true) : ∀ (f : Nat) (listed : Array Bool) (a : Act) (w : World), wpAny P md ops Q f listed a w → wpAnyIn (Fence.wide.inRound l) n P md ops Q f listed a w
  | 0, _, _, _, h => h
  | f + 1, _, _, _, h => ⟨h.1, fun i hi => wpOpIn_mono (fun a' w' h' => wpAny_round hL hd f _ a' w' h') (wpOp_round hL hd (h.2 i hi))⟩
theorem region_round {id : Nat} {a : Act} {w : World} (hL : ¬ LetsOut Q) (hm : P.follows .mixedOrders = true) (hd : noDefer ops = true)
    (h : wpAny P .any ops Q ops.size (Array.replicate ops.size false) a { w with drawn := w.drawn + 1 }) : (Code.region id ops true).wpIn (Fence.wide.inRound l) n P Q a w :=
  wpIn_region_any hm (wpAny_round hL hd _ _ _ _ h)
end
end Go.Proofs.Ythhpcjoaogmhbaa
end
section
namespace Go.Proofs.Ythhpcjoaogmhbaa
open Go.RowKit Go.Shelf
def methB (name : ByteArray) (m : Method) : Bool := m.name.toList == name.toList
def fitsB (m : Method) (above : List Method) : Bool := match above.find? (methB m.name) with | some o => alikeB m o | none => true
def topB (cs : List Class) (c : Class) (m : Nat) (x : Class) : Bool := !(decide (m = cs.length)) && (x.super.toList.isEmpty || cs.any (namedB x.super)) && c.methods.all fun y => fitsB y x.methods
def roundB (cs : List Class) (c : Class) (x : Nat × Nat) : Bool := match cs[x.2]? with | some k => topB cs c x.1 k | none => true
def fieldsAt (cs : List Class) (x : Nat × Nat) : List ByteArray := match cs[x.2]? with | some k => namesL k.fields | none => []
def fieldsUp (cs : List Class) (l : List (Nat × Nat)) : List ByteArray := l.flatMap (fieldsAt cs)
def okClassB (cs : List Class) (c : Class) : Bool :=
  (upX cs (cs.length + 1) 0 c.name).all (roundB cs c) && c.methods.all (fun m => onceB (namesL m.params)) && onceB (fieldsUp cs (upX cs (cs.length + 1) 0 c.name)) && onceB (c.methods.map (·.name))
theorem fieldsUp_snoc {cs : List Class} {pre : List (Nat × Nat)} {m j : Nat} {k : Class} (h : cs[j]? = some k) : fieldsUp cs (pre ++ [(m, j)]) = fieldsUp cs pre ++ namesL k.fields := by
  simp [fieldsUp, fieldsAt, h]
theorem roundB_at {cs : List Class} {c : Class} {m j : Nat} {k : Class} (h : cs[j]? = some k) : roundB cs c (m, j) = topB cs c m k := by simp [roundB, h]
theorem idx_find {α : Type} (p : α → Bool) : ∀ l : List α, (idxB p l < 0 → l.find? p = none) ∧ (0 ≤ idxB p l → l[(idxB p l).toNat]? = l.find? p)
  | [] => ⟨fun _ => rfl, fun h => by simp [idxB] at h⟩
  | x :: l => by
    have ih := idx_find p l
    have h2 := idxB_ge p l
    unfold idxB
    by_cases hp : p x = true
    · rw [if_pos hp, List.find?_cons_of_pos hp]
      exact ⟨fun h => by omega, fun _ => rfl⟩
    · rw [if_neg hp, List.find?_cons_of_neg hp]
      by_cases h1 : idxB p l = -1
      · rw [if_pos h1]
        exact ⟨fun _ => ih.1 (by omega), fun h => by omega⟩
      · rw [if_neg h1]
        refine ⟨fun h => by omega, fun _ => ?_⟩
        have e : (idxB p l + 1).toNat = (idxB p l).toNat + 1 := by omega
        rw [e, List.getElem?_cons_succ]
        exact ih.2 (by omega)
end Go.Proofs.Ythhpcjoaogmhbaa
end
