/- Joined by my own program, in build order: MayS. -/
import Derived.Test.YthhpcjoaogmhbaaGreatDoorG13
import Derived.Test.YthhpcjoaogmhbaaGreatDoorG14
set_option linter.unusedVariables false
set_option linter.unusedSimpArgs false
section
namespace Go.Proofs.YthhpcjoaogmhbaaGreatDoor
open Go.RowKit
theorem CK (d : Nat) (w : World) (v : Value) (l : List Stmt) (hM : jY w) (h : jH d w (· < w.heap.size) v l) :
 Calls Tryz.prog 52 #[v] w fun e w' => e = .returned (.bool (l.all bS)) ∧ Below w.heap.size w w' := Eu d (LG d) w v l hM h
theorem La (w : World) : Calls Tryz.prog 105 #[.int .i64 1] w fun e w' => e = .returned (.tuple #[.int .i64 (bT 1).1, .int .i64 (bT 1).2]) ∧ w = w' := by
 go_enter Tryz.func105, Tryz.ntmps105
 go_wp2
 go_ret2
 exact ⟨rfl, rfl⟩
theorem KZ (w : World) : Calls Tryz.prog 105 #[.int .i64 2] w fun e w' => e = .returned (.tuple #[.int .i64 (bT 2).1, .int .i64 (bT 2).2]) ∧ w = w' := by
 go_enter Tryz.func105, Tryz.ntmps105
 go_wp2
 go_ret2
 exact ⟨rfl, rfl⟩
theorem Lu (w : World) : Calls Tryz.prog 105 #[.int .i64 3] w fun e w' => e = .returned (.tuple #[.int .i64 (bT 3).1, .int .i64 (bT 3).2]) ∧ w = w' := by
 go_enter Tryz.func105, Tryz.ntmps105
 go_wp2
 go_ret2
 exact ⟨rfl, rfl⟩
theorem MW (w : World) : Calls Tryz.prog 105 #[.int .i64 4] w fun e w' => e = .returned (.tuple #[.int .i64 (bT 4).1, .int .i64 (bT 4).2]) ∧ w = w' := by
 go_enter Tryz.func105, Tryz.ntmps105
 go_wp2
 go_ret2
 exact ⟨rfl, rfl⟩
theorem LW (w : World) : Calls Tryz.prog 105 #[.int .i64 5] w fun e w' => e = .returned (.tuple #[.int .i64 (bT 5).1, .int .i64 (bT 5).2]) ∧ w = w' := by
 go_enter Tryz.func105, Tryz.ntmps105
 go_wp2
 go_ret2
 exact ⟨rfl, rfl⟩
theorem Nf (w : World) : Calls Tryz.prog 105 #[.int .i64 6] w fun e w' => e = .returned (.tuple #[.int .i64 (bT 6).1, .int .i64 (bT 6).2]) ∧ w = w' := by
 go_enter Tryz.func105, Tryz.ntmps105
 go_wp2
 go_ret2
 exact ⟨rfl, rfl⟩
theorem Mq (w : World) : Calls Tryz.prog 105 #[.int .i64 7] w fun e w' => e = .returned (.tuple #[.int .i64 (bT 7).1, .int .i64 (bT 7).2]) ∧ w = w' := by
 go_enter Tryz.func105, Tryz.ntmps105
 go_wp2
 go_ret2
 exact ⟨rfl, rfl⟩
theorem F4 (k : Int) (w : World) : Calls Tryz.prog 105 #[.int .i64 k] w fun e w' => e = .returned (.tuple #[.int .i64 (bT k).1, .int .i64 (bT k).2]) ∧ w = w' := by
 by_cases hk : 1 ≤ k ∧ k ≤ 7
 ·have hc : k = 1 ∨ k = 2 ∨ k = 3 ∨ k = 4 ∨ k = 5 ∨ k = 6 ∨ k = 7 := by omega
  rcases hc with rfl | rfl | rfl | rfl | rfl | rfl | rfl
  ·exact La w
  ·exact KZ w
  ·exact Lu w
  ·exact MW w
  ·exact LW w
  ·exact Nf w
  ·exact Mq w
 ·have H : Hid (bT k = (-1, -1)) := by
   show bT k = _
   unfold bT; rw [if_neg (by omega), if_neg (by omega), if_neg (by omega)]
  have h1 : (k == 1) = false := by simp; omega
  have h2 : (k == 2) = false := by simp; omega
  have h3 : (k == 3) = false := by simp; omega
  have h4 : (k == 4) = false := by simp; omega
  have h5 : (k == 5) = false := by simp; omega
  have h6 : (k == 6) = false := by simp; omega
  have h7 : (k == 7) = false := by simp; omega
  clear hk
  go_enter Tryz.func105, Tryz.ntmps105
  go_wp2
  go_ret2
  rw [H.out]
  exact ⟨rfl, rfl⟩
set_option maxHeartbeats 2000000 in
theorem KS (w : World) (kind num : Int) (type name : ByteArray) (es : List Expr) (th el : List Stmt) (a1 a2 a3 : Option Addr) (n1 n2 n3 cap1 cap2 cap3 : Nat) (wt : type.size ≤ maxS) (ws : name.size ≤ maxS)
 (h1 : es.length = n1) (h2 : th.length = n2) (h3 : el.length = n3) :
 Calls Tryz.prog 80 #[.agg #[.int .i64 kind, .int .i64 num, .string type, .string name, .slice a1 n1 cap1, .slice a2 n2 cap2, .slice a3 n3 cap3]] w fun e w' => e = .returned (.bool (bF ⟨kind, num, type, name, es, th, el⟩)) ∧ Below w.heap.size w w' := by
 have hKC : ∀ w : World, Calls Tryz.prog 105 #[.int .i64 kind] w fun e w' => e = .returned (.tuple #[.int .i64 (bT kind).1, .int .i64 (bT kind).2]) ∧ w = w' := F4 kind
 generalize hKO : bT kind = ko at hKC
 obtain ⟨lo, hi⟩ := ko
 have HKC := Lib.hid hKC
 clear hKC
 have e2 : th.isEmpty = (n2 == 0) := by rw [← h2]; cases th <;> simp
 have e3 : el.isEmpty = (n3 == 0) := by rw [← h3]; cases el <;> simp
 by_cases k1 : kind = 1
 ·have HC : Hid (bF ⟨kind, num, type, name, es, th, el⟩ = (decide (0 ≤ lo) && decide (lo ≤ (n1 : Int)) && decide ((n1 : Int) ≤ hi) && (fC type && bK name) && num == 0 && n2 == 0 && n3 == 0)) := by
   show bF _ = _
   simp only [bF, hKO, h1, e2, e3]
   simp [k1]
  have t1 : (kind == 1) = true := by simp [k1]
  have t3 : (kind == 3) = false := by simp [k1]
  have t4 : (kind == 4) = false := by simp [k1]
  have t5 : (kind == 5) = false := by simp [k1]
  have t5' : (kind != 5) = true := by simp [k1]
  clear k1 hKO
  go_enter Tryz.func80, Tryz.ntmps80
  go_wp2_with (first
   | (go_at_call 105; refine (HKC.out _).mono ?_; rintro e w' ⟨rfl, rfl⟩)
   | (go_at_call 44; refine (gP _ wt _).mono ?_; rintro e w' ⟨rfl, rfl⟩)
   | (go_at_call 42; refine (dN _ ws _).mono ?_; rintro e w' ⟨rfl, rfl⟩))
  all_goals go_ret
  all_goals refine ⟨aH ?_, by go_grown⟩
  all_goals rw [HC.out]
  all_goals clear HC HKC
  all_goals simp_all
  all_goals first | done | (intros; omega) | (intros; simp_all; done) | (rw [Bool.eq_iff_iff]; simp; done)
 by_cases k3 : kind = 3
 ·have HC : Hid (bF ⟨kind, num, type, name, es, th, el⟩ = (decide (0 ≤ lo) && decide (lo ≤ (n1 : Int)) && decide ((n1 : Int) ≤ hi) && (type.toList.isEmpty && name.toList.isEmpty) && num == 0)) := by
   show bF _ = _
   simp only [bF, hKO, h1, e2, e3]
   simp [k3]
  have t1 : (kind == 1) = false := by simp [k3]
  have t3 : (kind == 3) = true := by simp [k3]
  have t4 : (kind == 4) = false := by simp [k3]
  have t5 : (kind == 5) = false := by simp [k3]
  have t5' : (kind != 5) = true := by simp [k3]
  clear k3 hKO
  go_enter Tryz.func80, Tryz.ntmps80
  go_wp2_with (first
   | (go_at_call 105; refine (HKC.out _).mono ?_; rintro e w' ⟨rfl, rfl⟩)
   | (go_at_call 44; refine (gP _ wt _).mono ?_; rintro e w' ⟨rfl, rfl⟩)
   | (go_at_call 42; refine (dN _ ws _).mono ?_; rintro e w' ⟨rfl, rfl⟩))
  all_goals go_ret
  all_goals refine ⟨aH ?_, by go_grown⟩
  all_goals rw [HC.out]
  all_goals clear HC HKC
  all_goals simp_all
  all_goals first | done | (intros; omega) | (intros; simp_all; done) | (rw [Bool.eq_iff_iff]; simp; done)
 by_cases k4 : kind = 4
 ·have HC : Hid (bF ⟨kind, num, type, name, es, th, el⟩ = (decide (0 ≤ lo) && decide (lo ≤ (n1 : Int)) && decide ((n1 : Int) ≤ hi) && (type.toList.isEmpty && name.toList.isEmpty) && num == 0 && n3 == 0)) := by
   show bF _ = _
   simp only [bF, hKO, h1, e2, e3]
   simp [k4]
  have t1 : (kind == 1) = false := by simp [k4]
  have t3 : (kind == 3) = false := by simp [k4]
  have t4 : (kind == 4) = true := by simp [k4]
  have t5 : (kind == 5) = false := by simp [k4]
  have t5' : (kind != 5) = true := by simp [k4]
  clear k4 hKO
  go_enter Tryz.func80, Tryz.ntmps80
  go_wp2_with (first
   | (go_at_call 105; refine (HKC.out _).mono ?_; rintro e w' ⟨rfl, rfl⟩)
   | (go_at_call 44; refine (gP _ wt _).mono ?_; rintro e w' ⟨rfl, rfl⟩)
   | (go_at_call 42; refine (dN _ ws _).mono ?_; rintro e w' ⟨rfl, rfl⟩))
  all_goals go_ret
  all_goals refine ⟨aH ?_, by go_grown⟩
  all_goals rw [HC.out]
  all_goals clear HC HKC
  all_goals simp_all
  all_goals first | done | (intros; omega) | (intros; simp_all; done) | (rw [Bool.eq_iff_iff]; simp; done)
 by_cases k5 : kind = 5
 ·have HC : Hid (bF ⟨kind, num, type, name, es, th, el⟩ = (decide (0 ≤ lo) && decide (lo ≤ (n1 : Int)) && decide ((n1 : Int) ≤ hi) && (type.toList.isEmpty && name.toList.isEmpty) && (decide (0 ≤ num) && decide (num ≤ 99)) && n2 == 0 && n3 == 0)) := by
   show bF _ = _
   simp only [bF, hKO, h1, e2, e3]
   simp [k5]
  have t1 : (kind == 1) = false := by simp [k5]
  have t3 : (kind == 3) = false := by simp [k5]
  have t4 : (kind == 4) = false := by simp [k5]
  have t5 : (kind == 5) = true := by simp [k5]
  have t5' : (kind != 5) = false := by simp [k5]
  clear k5 hKO
  go_enter Tryz.func80, Tryz.ntmps80
  go_wp2_with (first
   | (go_at_call 105; refine (HKC.out _).mono ?_; rintro e w' ⟨rfl, rfl⟩)
   | (go_at_call 44; refine (gP _ wt _).mono ?_; rintro e w' ⟨rfl, rfl⟩)
   | (go_at_call 42; refine (dN _ ws _).mono ?_; rintro e w' ⟨rfl, rfl⟩))
  all_goals go_ret
  all_goals refine ⟨aH ?_, by go_grown⟩
  all_goals rw [HC.out]
  all_goals clear HC HKC
  all_goals simp_all
  all_goals first | done | (intros; omega) | (intros; simp_all; done) | (rw [Bool.eq_iff_iff]; simp; done)
 have HC : Hid (bF ⟨kind, num, type, name, es, th, el⟩ = (decide (0 ≤ lo) && decide (lo ≤ (n1 : Int)) && decide ((n1 : Int) ≤ hi) && (type.toList.isEmpty && name.toList.isEmpty) && num == 0 && n2 == 0 && n3 == 0)) := by
  show bF _ = _
  simp only [bF, hKO, h1, e2, e3]
  have b3 : (kind == 3) = false := by simp; exact k3
  have b4 : (kind == 4) = false := by simp; exact k4
  rw [b3, b4, if_neg k1, if_neg k5]
  simp
 have t1 : (kind == 1) = false := by simp; assumption
 have t3 : (kind == 3) = false := by simp; assumption
 have t4 : (kind == 4) = false := by simp; assumption
 have t5 : (kind == 5) = false := by simp; assumption
 have t5' : (kind != 5) = true := by simp; assumption
 clear k1 k3 k4 k5 hKO
 go_enter Tryz.func80, Tryz.ntmps80
 go_wp2_with (first
  | (go_at_call 105; refine (HKC.out _).mono ?_; rintro e w' ⟨rfl, rfl⟩)
  | (go_at_call 44; refine (gP _ wt _).mono ?_; rintro e w' ⟨rfl, rfl⟩)
  | (go_at_call 42; refine (dN _ ws _).mono ?_; rintro e w' ⟨rfl, rfl⟩))
 all_goals go_ret
 all_goals refine ⟨aH ?_, by go_grown⟩
 all_goals rw [HC.out]
 all_goals clear HC HKC
 all_goals simp_all
 all_goals first | done | (intros; omega) | (intros; simp_all; done) | (rw [Bool.eq_iff_iff]; simp; done)
set_option maxHeartbeats 4000000 in
theorem qb (d : Nat) : ∀ (w : World) (v : Value) (l : List Stmt), jH d w (· < w.heap.size) v l →
 Calls Tryz.prog 45 #[v] w fun e w' => e = .returned (.bool (l.all bS)) ∧ Below w.heap.size w w' := by
 induction d using Nat.strongRecOn with
 | ind d ih =>
   intro w v l ⟨a, n, cap, hv, hn, hcap, hmax, hel⟩
   subst hv
   have H := Lib.hid hel
   have IH := Lib.hid ih
   have HN := Lib.hid hn
   unfold l8 at hmax
   clear hel ih hn
   go_enter Tryz.func45, Tryz.ntmps45
   go_wp2
   go_loopw [10] (fun v10 w' => ∃ j : Nat, j ≤ n ∧ v10 = .int .i64 j ∧ Hid (l.all bS = (l.drop j).all bS) ∧ Hid (Below w.heap.size w w')) (fun v10 _ => n - (intOf v10).toNat)
   case atStart => exact ⟨0, by omega, rfl, rfl, Below.refl _ _⟩
   case round =>
    obtain ⟨j, hj, rfl, HP, HB⟩ := hrel
    by_cases hlt : j < n
    ·obtain ⟨x, hx⟩ : ∃ x, l[j]? = some x := ⟨_, List.getElem?_eq_getElem (by rw [HN.out]; exact hlt)⟩
     have HXJ := Lib.hid hx
     clear hx
     obtain ⟨b, off, cs, rfl, hbl, hc, hr⟩ := H.out j _ HXJ.out
     obtain ⟨d', a1, n1, cap1, a2, n2, cap2, a3, n3, cap3, hd, rfl, -, -, wt, ws, h4, h5, h6⟩ := hr.inv
     obtain ⟨c0, c1, c2, c3, c4, c5, c6, -⟩ := aW (HB.out.block b hbl) hc
     have HD : Hid (l.drop j = x :: l.drop (j + 1)) := drop_of_getElem? HXJ.out
     have HT := Lib.hid (Ef x)
     have HE := Lib.hid h4
     have H5 := Lib.hid h5
     have H6 := Lib.hid h6
     obtain ⟨_, _, _, heq, hl1, hx1, hm1, hel⟩ := h4
     cases heq
     have HL1 := Lib.hid hl1
     have HL2 : Hid (x.thn.length = n2) := by obtain ⟨_, _, _, heq, hl2, _⟩ := h5; cases heq; exact hl2
     have HL3 : Hid (x.els.length = n3) := by obtain ⟨_, _, _, heq, hl3, _⟩ := h6; cases heq; exact hl3
     have HEL := Lib.hid hel
     unfold l8 at hm1
     clear h5 h6 hc hr hl1 hel
     have HSH : Hid (∀ W : World, Calls Tryz.prog 80 #[.agg #[.int .i64 x.kind, .int .i64 x.num, .string x.type, .string x.name, .slice a1 n1 cap1, .slice a2 n2 cap2, .slice a3 n3 cap3]] W fun e w' => e = .returned (.bool (bF x)) ∧ Below W.heap.size W w') :=
      fun W => KS W x.kind x.num x.type x.name x.exprs x.thn x.els a1 a2 a3 n1 n2 n3 cap1 cap2 cap3 wt ws HL1.out HL2.out HL3.out
     obtain ⟨wo, rfl⟩ : ∃ wo : World, wo = wr := ⟨_, rfl⟩
     go_wp2_with fail
     refine (HSH.out _).mono ?_
     rintro e w1 ⟨rfl, hb1⟩
     have HB1 : Hid (Below w.heap.size w w1) := dF (HB.out.alloc HB.out.size _) hb1
     have q0 : w1.cell? ⟨wo.heap.size, 0, none⟩ = some (.int .i64 x.kind) := (hb1.cell (by simp)).trans (by simp)
     have q4 : w1.cell? ⟨wo.heap.size, 4, none⟩ = some (.slice a1 n1 cap1) := (hb1.cell (by simp)).trans (by simp)
     have q5 : w1.cell? ⟨wo.heap.size, 5, none⟩ = some (.slice a2 n2 cap2) := (hb1.cell (by simp)).trans (by simp)
     have q6 : w1.cell? ⟨wo.heap.size, 6, none⟩ = some (.slice a3 n3 cap3) := (hb1.cell (by simp)).trans (by simp)
     clear hb1 c0 c1 c2 c3 c4 c5 c6
     cases htop : bF x with
     | false =>
       go_wp2
       go_ret
       exact ⟨aH (by rw [HP.out, HD.out, List.all_cons, HT.out, htop]; simp), HB1.out⟩
     | true =>
       have HTOP : Hid (bF x = true) := htop
       go_wp2
       clear htop
       go_loopw [20] (fun v20 w' => ∃ k : Nat, k ≤ n1 ∧ v20 = .int .i64 k ∧ Hid (x.exprs.all cK = (x.exprs.drop k).all cK) ∧ Hid (Below w.heap.size w w') ∧ w'.cell? ⟨wo.heap.size, 0, none⟩ = some (.int .i64 x.kind) ∧
        w'.cell? ⟨wo.heap.size, 4, none⟩ = some (.slice a1 n1 cap1) ∧ w'.cell? ⟨wo.heap.size, 5, none⟩ = some (.slice a2 n2 cap2) ∧ w'.cell? ⟨wo.heap.size, 6, none⟩ = some (.slice a3 n3 cap3)) (fun v20 _ => n1 - (intOf v20).toNat)
       case atStart => exact ⟨0, by omega, rfl, rfl, HB1, q0, q4, q5, q6⟩
       case round =>
        clear q0 q4 q5 q6 HB1
        obtain ⟨k, hk, rfl, HPE, HB2, q0, q4, q5, q6⟩ := hrel
        by_cases hlt2 : k < n1
        ·obtain ⟨y, hy⟩ : ∃ y, x.exprs[k]? = some y := ⟨_, List.getElem?_eq_getElem (by rw [HL1.out]; exact hlt2)⟩
         have HY := Lib.hid hy
         clear hy
         obtain ⟨b', off', cs', rfl, hbl', hc, hr⟩ := HEL.out k _ HY.out
         obtain ⟨_, a7, n7, cap7, _, rfl, -⟩ := hr.inv
         have HR := Lib.hid hr
         obtain ⟨c0, c1, c2, c3, -⟩ := aW (HB2.out.block b' hbl') hc
         have HDE : Hid (x.exprs.drop k = y :: x.exprs.drop (k + 1)) := drop_of_getElem? HY.out
         have HBA : Hid (∀ X, Below w.heap.size w (wr.alloc X)) := fun X => HB2.out.alloc HB2.out.size X
         have p0 := fun X => next (w2 := wr.alloc X) (by go_grown) q0
         have p4 := fun X => next (w2 := wr.alloc X) (by go_grown) q4
         have p5 := fun X => next (w2 := wr.alloc X) (by go_grown) q5
         have p6 := fun X => next (w2 := wr.alloc X) (by go_grown) q6
         clear hc hr q0 q4 q5 q6
         go_wp2_with fail
         (with_reducible refine (En d' _ [_, _, _, _] y (HR.out.mono ?_ ?_)).mono ?_)
         ·exact fun k hk => Nat.lt_of_lt_of_le hk (HBA.out _).size
         ·exact fun k hk => (HBA.out _).block k hk
         rintro e w2 ⟨rfl, hb2⟩
         have HB3 : Hid (Below w.heap.size w w2) := dF (HBA.out _) hb2
         have r0 := next (o := 0) hb2 (p0 _)
         have r4 := next (o := 4) hb2 (p4 _)
         have r5 := next (o := 5) hb2 (p5 _)
         have r6 := next (o := 6) hb2 (p6 _)
         clear hb2 p0 p4 p5 p6
         cases hq : cK y with
         | false =>
           go_wp2
           go_ret
           exact ⟨aH (by rw [HP.out, HD.out, List.all_cons, HT.out, HPE.out, HDE.out]; simp [hq]), HB3.out⟩
         | true =>
           have HP2 : Hid (x.exprs.all cK = (x.exprs.drop (k + 1)).all cK) := by
            show x.exprs.all cK = (x.exprs.drop (k + 1)).all cK
            rw [HPE.out, HDE.out]; simp [hq]
           go_wp2
           refine ⟨?_, by simp [intOf]; omega⟩
           first
            | exact ⟨k + 1, by omega, by go_num, HP2, HB3, r0, r4, r5, r6⟩
            | ((repeat apply Exists.intro)
               refine ⟨⟨k + 1, by omega, ?_, HP2, HB3, r0, r4, r5, r6⟩, rfl⟩
               go_num)
        ·obtain rfl : k = n1 := by omega
         have HX : Hid (x.exprs.all cK = true) := by
          show x.exprs.all cK = true
          rw [HPE.out, List.drop_of_length_le (by rw [HL1.out]; exact Nat.le_refl _)]; rfl
         obtain ⟨w3, hw3⟩ : ∃ w3, w3 = wr := ⟨_, rfl⟩
         subst hw3
         have HB3 := HB2
         clear HPE HB2
         by_cases k2 : x.kind = 2
         ·have t2 : (x.kind == 2) = true := by simp [k2]
          have HK : Hid (x.kind = 2) := k2
          have hk1 : 1 ≤ k := by
           have h0 := HTOP.out
           unfold bF bT at h0
           rw [k2, HL1.out] at h0
           simp at h0
           omega
          clear k2
          obtain ⟨y, hy⟩ : ∃ y, x.exprs[0]? = some y := ⟨_, List.getElem?_eq_getElem (by rw [HL1.out]; omega)⟩
          have HF0 : Hid (bP x = pQ y.kind) := by show bP x = _; rw [kD hy]; simp [HK.out]
          obtain ⟨b1, off1, cs1, rfl, hbl1, hc1, hr1⟩ := HEL.out 0 _ hy
          obtain ⟨_, _, _, _, _, rfl, -⟩ := hr1.inv
          obtain ⟨c0, -⟩ := aW (HB3.out.block b1 hbl1) hc1
          have c0' : w3.cell? ⟨b1, off1, none⟩ = some (.int .i64 y.kind) := by simpa using c0
          clear c0 hc1 hr1 hy
          have HPL : Hid (pQ y.kind = (y.kind == 4 || y.kind == 7 || y.kind == 8)) := rfl
          by_cases p4 : y.kind = 4
          ·have HF : Hid (bP x = true) := by show bP x = true; rw [HF0.out, HPL.out, p4]; rfl
           have e4 : (y.kind != 4) = false := by simp [p4]
           clear p4
           go_wp2_with fail
           refine (IH.out d' hd w3 _ x.thn (H5.out.mono (fun k hk => Nat.lt_of_lt_of_le hk HB3.out.size) (fun k hk => HB3.out.block k hk))).mono ?_
           rintro e w4 ⟨rfl, hb4⟩
           have HB4 := jK hb4 HB3
           have r6 := next (o := 6) hb4 q6
           clear hb4 q4 q5 q6 q0
           cases hth : x.thn.all bS with
           | false =>
             go_wp2
             go_ret
             exact ⟨aH (by rw [HP.out, HD.out, List.all_cons, HT.out, hth]; simp), HB4.out⟩
           | true =>
             go_wp2_with fail
             refine (IH.out d' hd w4 _ x.els (H6.out.mono (fun k hk => Nat.lt_of_lt_of_le hk HB4.out.size) (fun k hk => HB4.out.block k hk))).mono ?_
             rintro e w5 ⟨rfl, hb5⟩
             have HB5 := jK hb5 HB4
             clear hb5 r6
             cases hel : x.els.all bS with
             | false =>
               go_wp2
               go_ret
               exact ⟨aH (by rw [HP.out, HD.out, List.all_cons, HT.out, hel]; simp), HB5.out⟩
             | true =>
               have HP2 : Hid (l.all bS = (l.drop (j + 1)).all bS) := by
                show l.all bS = (l.drop (j + 1)).all bS
                rw [HP.out, HD.out, List.all_cons, HT.out, HTOP.out, HX.out, HF.out, hth, hel]; simp
               go_wp2
               refine ⟨?_, by simp [intOf]; omega⟩
               first
                | exact ⟨j + 1, by omega, by go_num, HP2, HB5⟩
                | ((repeat apply Exists.intro)
                   refine ⟨⟨j + 1, by omega, ?_, HP2, HB5⟩, rfl⟩
                   go_num)
          have e4 : (y.kind != 4) = true := by simp [p4]
          by_cases p7 : y.kind = 7
          ·have HF : Hid (bP x = true) := by show bP x = true; rw [HF0.out, HPL.out, p7]; rfl
           have e7 : (y.kind != 7) = false := by simp [p7]
           clear p4 p7
           go_wp2_with fail
           refine (IH.out d' hd w3 _ x.thn (H5.out.mono (fun k hk => Nat.lt_of_lt_of_le hk HB3.out.size) (fun k hk => HB3.out.block k hk))).mono ?_
           rintro e w4 ⟨rfl, hb4⟩
           have HB4 := jK hb4 HB3
           have r6 := next (o := 6) hb4 q6
           clear hb4 q4 q5 q6 q0
           cases hth : x.thn.all bS with
           | false =>
             go_wp2
             go_ret
             exact ⟨aH (by rw [HP.out, HD.out, List.all_cons, HT.out, hth]; simp), HB4.out⟩
           | true =>
             go_wp2_with fail
             refine (IH.out d' hd w4 _ x.els (H6.out.mono (fun k hk => Nat.lt_of_lt_of_le hk HB4.out.size) (fun k hk => HB4.out.block k hk))).mono ?_
             rintro e w5 ⟨rfl, hb5⟩
             have HB5 := jK hb5 HB4
             clear hb5 r6
             cases hel : x.els.all bS with
             | false =>
               go_wp2
               go_ret
               exact ⟨aH (by rw [HP.out, HD.out, List.all_cons, HT.out, hel]; simp), HB5.out⟩
             | true =>
               have HP2 : Hid (l.all bS = (l.drop (j + 1)).all bS) := by
                show l.all bS = (l.drop (j + 1)).all bS
                rw [HP.out, HD.out, List.all_cons, HT.out, HTOP.out, HX.out, HF.out, hth, hel]; simp
               go_wp2
               refine ⟨?_, by simp [intOf]; omega⟩
               first
                | exact ⟨j + 1, by omega, by go_num, HP2, HB5⟩
                | ((repeat apply Exists.intro)
                   refine ⟨⟨j + 1, by omega, ?_, HP2, HB5⟩, rfl⟩
                   go_num)
          have e7 : (y.kind != 7) = true := by simp [p7]
          by_cases p8 : y.kind = 8
          ·have HF : Hid (bP x = true) := by show bP x = true; rw [HF0.out, HPL.out, p8]; rfl
           have e8 : (y.kind != 8) = false := by simp [p8]
           clear p4 p7 p8
           go_wp2_with fail
           refine (IH.out d' hd w3 _ x.thn (H5.out.mono (fun k hk => Nat.lt_of_lt_of_le hk HB3.out.size) (fun k hk => HB3.out.block k hk))).mono ?_
           rintro e w4 ⟨rfl, hb4⟩
           have HB4 := jK hb4 HB3
           have r6 := next (o := 6) hb4 q6
           clear hb4 q4 q5 q6 q0
           cases hth : x.thn.all bS with
           | false =>
             go_wp2
             go_ret
             exact ⟨aH (by rw [HP.out, HD.out, List.all_cons, HT.out, hth]; simp), HB4.out⟩
           | true =>
             go_wp2_with fail
             refine (IH.out d' hd w4 _ x.els (H6.out.mono (fun k hk => Nat.lt_of_lt_of_le hk HB4.out.size) (fun k hk => HB4.out.block k hk))).mono ?_
             rintro e w5 ⟨rfl, hb5⟩
             have HB5 := jK hb5 HB4
             clear hb5 r6
             cases hel : x.els.all bS with
             | false =>
               go_wp2
               go_ret
               exact ⟨aH (by rw [HP.out, HD.out, List.all_cons, HT.out, hel]; simp), HB5.out⟩
             | true =>
               have HP2 : Hid (l.all bS = (l.drop (j + 1)).all bS) := by
                show l.all bS = (l.drop (j + 1)).all bS
                rw [HP.out, HD.out, List.all_cons, HT.out, HTOP.out, HX.out, HF.out, hth, hel]; simp
               go_wp2
               refine ⟨?_, by simp [intOf]; omega⟩
               first
                | exact ⟨j + 1, by omega, by go_num, HP2, HB5⟩
                | ((repeat apply Exists.intro)
                   refine ⟨⟨j + 1, by omega, ?_, HP2, HB5⟩, rfl⟩
                   go_num)
          have e8 : (y.kind != 8) = true := by simp [p8]
          have HF : Hid (bP x = false) := by show bP x = false; rw [HF0.out, HPL.out]; simp; omega
          clear p4 p7 p8
          go_wp2
          go_ret
          exact ⟨aH (by rw [HP.out, HD.out, List.all_cons, HT.out, HF.out]; simp), HB3.out⟩
         have t2 : (x.kind == 2) = false := by simp [k2]
         by_cases k7 : x.kind = 7
         ·have t7 : (x.kind == 7) = true := by simp [k7]
          have HK : Hid (x.kind = 7) := k7
          have hk1 : 1 ≤ k := by
           have h0 := HTOP.out
           unfold bF bT at h0
           rw [k7, HL1.out] at h0
           simp at h0
           omega
          clear k2 k7
          obtain ⟨y, hy⟩ : ∃ y, x.exprs[0]? = some y := ⟨_, List.getElem?_eq_getElem (by rw [HL1.out]; omega)⟩
          have HF0 : Hid (bP x = (y.kind == 10)) := by show bP x = _; rw [kD hy]; simp [HK.out]
          obtain ⟨b1, off1, cs1, rfl, hbl1, hc1, hr1⟩ := HEL.out 0 _ hy
          obtain ⟨_, _, _, _, _, rfl, -⟩ := hr1.inv
          obtain ⟨c0, -⟩ := aW (HB3.out.block b1 hbl1) hc1
          have c0' : w3.cell? ⟨b1, off1, none⟩ = some (.int .i64 y.kind) := by simpa using c0
          clear c0 hc1 hr1 hy
          by_cases p10 : y.kind = 10
          ·have HF : Hid (bP x = true) := by show bP x = true; rw [HF0.out, p10]; rfl
           have e10 : (y.kind != 10) = false := by simp [p10]
           clear p10
           go_wp2_with fail
           refine (IH.out d' hd w3 _ x.thn (H5.out.mono (fun k hk => Nat.lt_of_lt_of_le hk HB3.out.size) (fun k hk => HB3.out.block k hk))).mono ?_
           rintro e w4 ⟨rfl, hb4⟩
           have HB4 := jK hb4 HB3
           have r6 := next (o := 6) hb4 q6
           clear hb4 q4 q5 q6 q0
           cases hth : x.thn.all bS with
           | false =>
             go_wp2
             go_ret
             exact ⟨aH (by rw [HP.out, HD.out, List.all_cons, HT.out, hth]; simp), HB4.out⟩
           | true =>
             go_wp2_with fail
             refine (IH.out d' hd w4 _ x.els (H6.out.mono (fun k hk => Nat.lt_of_lt_of_le hk HB4.out.size) (fun k hk => HB4.out.block k hk))).mono ?_
             rintro e w5 ⟨rfl, hb5⟩
             have HB5 := jK hb5 HB4
             clear hb5 r6
             cases hel : x.els.all bS with
             | false =>
               go_wp2
               go_ret
               exact ⟨aH (by rw [HP.out, HD.out, List.all_cons, HT.out, hel]; simp), HB5.out⟩
             | true =>
               have HP2 : Hid (l.all bS = (l.drop (j + 1)).all bS) := by
                show l.all bS = (l.drop (j + 1)).all bS
                rw [HP.out, HD.out, List.all_cons, HT.out, HTOP.out, HX.out, HF.out, hth, hel]; simp
               go_wp2
               refine ⟨?_, by simp [intOf]; omega⟩
               first
                | exact ⟨j + 1, by omega, by go_num, HP2, HB5⟩
                | ((repeat apply Exists.intro)
                   refine ⟨⟨j + 1, by omega, ?_, HP2, HB5⟩, rfl⟩
                   go_num)
          have e10 : (y.kind != 10) = true := by simp [p10]
          have HF : Hid (bP x = false) := by show bP x = false; rw [HF0.out]; simp; exact p10
          clear p10
          go_wp2
          go_ret
          exact ⟨aH (by rw [HP.out, HD.out, List.all_cons, HT.out, HF.out]; simp), HB3.out⟩
         have t7 : (x.kind == 7) = false := by simp [k7]
         have HF : Hid (bP x = true) := by
          show bP x = true
          unfold bP
          cases x.exprs with
          | nil => rfl
          | cons e r => simp only []; rw [if_neg k2, if_neg k7]
         clear k2 k7
         go_wp2_with fail
         refine (IH.out d' hd w3 _ x.thn (H5.out.mono (fun k hk => Nat.lt_of_lt_of_le hk HB3.out.size) (fun k hk => HB3.out.block k hk))).mono ?_
         rintro e w4 ⟨rfl, hb4⟩
         have HB4 := jK hb4 HB3
         have r6 := next (o := 6) hb4 q6
         clear hb4 q4 q5 q6 q0
         cases hth : x.thn.all bS with
         | false =>
           go_wp2
           go_ret
           exact ⟨aH (by rw [HP.out, HD.out, List.all_cons, HT.out, hth]; simp), HB4.out⟩
         | true =>
           go_wp2_with fail
           refine (IH.out d' hd w4 _ x.els (H6.out.mono (fun k hk => Nat.lt_of_lt_of_le hk HB4.out.size) (fun k hk => HB4.out.block k hk))).mono ?_
           rintro e w5 ⟨rfl, hb5⟩
           have HB5 := jK hb5 HB4
           clear hb5 r6
           cases hel : x.els.all bS with
           | false =>
             go_wp2
             go_ret
             exact ⟨aH (by rw [HP.out, HD.out, List.all_cons, HT.out, hel]; simp), HB5.out⟩
           | true =>
             have HP2 : Hid (l.all bS = (l.drop (j + 1)).all bS) := by
              show l.all bS = (l.drop (j + 1)).all bS
              rw [HP.out, HD.out, List.all_cons, HT.out, HTOP.out, HX.out, HF.out, hth, hel]; simp
             go_wp2
             refine ⟨?_, by simp [intOf]; omega⟩
             first
              | exact ⟨j + 1, by omega, by go_num, HP2, HB5⟩
              | ((repeat apply Exists.intro)
                 refine ⟨⟨j + 1, by omega, ?_, HP2, HB5⟩, rfl⟩
                 go_num)
    ·obtain rfl : j = n := by omega
     have HE : Hid (l.drop j = []) := List.drop_of_length_le (by rw [HN.out]; exact Nat.le_refl _)
     go_wp2
     go_ret
     exact ⟨aH (by rw [HP.out, HE.out]; rfl), HB.out⟩
end Go.Proofs.YthhpcjoaogmhbaaGreatDoor
end
