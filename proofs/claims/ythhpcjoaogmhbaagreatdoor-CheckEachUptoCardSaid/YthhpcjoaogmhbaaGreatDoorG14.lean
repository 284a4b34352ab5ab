/- Joined by my own program, in build order: May. -/
import Derived.Test.YthhpcjoaogmhbaaGreatDoorG10
set_option linter.unusedVariables false
set_option linter.unusedSimpArgs false
section
namespace Go.Proofs.YthhpcjoaogmhbaaGreatDoor
open Go.RowKit
def bW (k : Int) : Int × Int := if (shapeOf k).2 then ((shapeOf k).1.least, (shapeOf k).1.most) else (-1, -1)
theorem QY (w : World) : Calls Tryz.prog 106 #[.int .i64 1] w fun e w' => e = .returned (.tuple #[.int .i64 (bW 1).1, .int .i64 (bW 1).2]) ∧ w = w' := by
 go_enter Tryz.func106, Tryz.ntmps106
 go_wp2
 go_ret2
 exact ⟨rfl, rfl⟩
theorem Rq (w : World) : Calls Tryz.prog 106 #[.int .i64 2] w fun e w' => e = .returned (.tuple #[.int .i64 (bW 2).1, .int .i64 (bW 2).2]) ∧ w = w' := by
 go_enter Tryz.func106, Tryz.ntmps106
 go_wp2
 go_ret2
 exact ⟨rfl, rfl⟩
theorem RH (w : World) : Calls Tryz.prog 106 #[.int .i64 3] w fun e w' => e = .returned (.tuple #[.int .i64 (bW 3).1, .int .i64 (bW 3).2]) ∧ w = w' := by
 go_enter Tryz.func106, Tryz.ntmps106
 go_wp2
 go_ret2
 exact ⟨rfl, rfl⟩
theorem Ry (w : World) : Calls Tryz.prog 106 #[.int .i64 4] w fun e w' => e = .returned (.tuple #[.int .i64 (bW 4).1, .int .i64 (bW 4).2]) ∧ w = w' := by
 go_enter Tryz.func106, Tryz.ntmps106
 go_wp2
 go_ret2
 exact ⟨rfl, rfl⟩
theorem RA (w : World) : Calls Tryz.prog 106 #[.int .i64 5] w fun e w' => e = .returned (.tuple #[.int .i64 (bW 5).1, .int .i64 (bW 5).2]) ∧ w = w' := by
 go_enter Tryz.func106, Tryz.ntmps106
 go_wp2
 go_ret2
 exact ⟨rfl, rfl⟩
theorem QU (w : World) : Calls Tryz.prog 106 #[.int .i64 6] w fun e w' => e = .returned (.tuple #[.int .i64 (bW 6).1, .int .i64 (bW 6).2]) ∧ w = w' := by
 go_enter Tryz.func106, Tryz.ntmps106
 go_wp2
 go_ret2
 exact ⟨rfl, rfl⟩
theorem RG (w : World) : Calls Tryz.prog 106 #[.int .i64 7] w fun e w' => e = .returned (.tuple #[.int .i64 (bW 7).1, .int .i64 (bW 7).2]) ∧ w = w' := by
 go_enter Tryz.func106, Tryz.ntmps106
 go_wp2
 go_ret2
 exact ⟨rfl, rfl⟩
theorem Q9 (w : World) : Calls Tryz.prog 106 #[.int .i64 8] w fun e w' => e = .returned (.tuple #[.int .i64 (bW 8).1, .int .i64 (bW 8).2]) ∧ w = w' := by
 go_enter Tryz.func106, Tryz.ntmps106
 go_wp2
 go_ret2
 exact ⟨rfl, rfl⟩
theorem Rn (w : World) : Calls Tryz.prog 106 #[.int .i64 9] w fun e w' => e = .returned (.tuple #[.int .i64 (bW 9).1, .int .i64 (bW 9).2]) ∧ w = w' := by
 go_enter Tryz.func106, Tryz.ntmps106
 go_wp2
 go_ret2
 exact ⟨rfl, rfl⟩
theorem OJ (w : World) : Calls Tryz.prog 106 #[.int .i64 10] w fun e w' => e = .returned (.tuple #[.int .i64 (bW 10).1, .int .i64 (bW 10).2]) ∧ w = w' := by
 go_enter Tryz.func106, Tryz.ntmps106
 go_wp2
 go_ret2
 exact ⟨rfl, rfl⟩
theorem PN (w : World) : Calls Tryz.prog 106 #[.int .i64 11] w fun e w' => e = .returned (.tuple #[.int .i64 (bW 11).1, .int .i64 (bW 11).2]) ∧ w = w' := by
 go_enter Tryz.func106, Tryz.ntmps106
 go_wp2
 go_ret2
 exact ⟨rfl, rfl⟩
theorem Pj (w : World) : Calls Tryz.prog 106 #[.int .i64 12] w fun e w' => e = .returned (.tuple #[.int .i64 (bW 12).1, .int .i64 (bW 12).2]) ∧ w = w' := by
 go_enter Tryz.func106, Tryz.ntmps106
 go_wp2
 go_ret2
 exact ⟨rfl, rfl⟩
theorem Qd (w : World) : Calls Tryz.prog 106 #[.int .i64 13] w fun e w' => e = .returned (.tuple #[.int .i64 (bW 13).1, .int .i64 (bW 13).2]) ∧ w = w' := by
 go_enter Tryz.func106, Tryz.ntmps106
 go_wp2
 go_ret2
 exact ⟨rfl, rfl⟩
theorem PS (w : World) : Calls Tryz.prog 106 #[.int .i64 14] w fun e w' => e = .returned (.tuple #[.int .i64 (bW 14).1, .int .i64 (bW 14).2]) ∧ w = w' := by
 go_enter Tryz.func106, Tryz.ntmps106
 go_wp2
 go_ret2
 exact ⟨rfl, rfl⟩
theorem P7 (w : World) : Calls Tryz.prog 106 #[.int .i64 15] w fun e w' => e = .returned (.tuple #[.int .i64 (bW 15).1, .int .i64 (bW 15).2]) ∧ w = w' := by
 go_enter Tryz.func106, Tryz.ntmps106
 go_wp2
 go_ret2
 exact ⟨rfl, rfl⟩
theorem OG (w : World) : Calls Tryz.prog 106 #[.int .i64 16] w fun e w' => e = .returned (.tuple #[.int .i64 (bW 16).1, .int .i64 (bW 16).2]) ∧ w = w' := by
 go_enter Tryz.func106, Tryz.ntmps106
 go_wp2
 go_ret2
 exact ⟨rfl, rfl⟩
theorem O9 (w : World) : Calls Tryz.prog 106 #[.int .i64 17] w fun e w' => e = .returned (.tuple #[.int .i64 (bW 17).1, .int .i64 (bW 17).2]) ∧ w = w' := by
 go_enter Tryz.func106, Tryz.ntmps106
 go_wp2
 go_ret2
 exact ⟨rfl, rfl⟩
theorem Pp (w : World) : Calls Tryz.prog 106 #[.int .i64 18] w fun e w' => e = .returned (.tuple #[.int .i64 (bW 18).1, .int .i64 (bW 18).2]) ∧ w = w' := by
 go_enter Tryz.func106, Tryz.ntmps106
 go_wp2
 go_ret2
 exact ⟨rfl, rfl⟩
theorem kinds (k : Int) (hk : 1 ≤ k ∧ k ≤ 18) : k = 1 ∨ k = 2 ∨ k = 3 ∨ k = 4 ∨ k = 5 ∨ k = 6 ∨ k = 7 ∨ k = 8 ∨ k = 9 ∨ k = 10 ∨ k = 11 ∨ k = 12 ∨ k = 13 ∨ k = 14 ∨ k = 15 ∨ k = 16 ∨ k = 17 ∨ k = 18 := by omega
theorem LP (k : Int) (w : World) : Calls Tryz.prog 106 #[.int .i64 k] w fun e w' => e = .returned (.tuple #[.int .i64 (bW k).1, .int .i64 (bW k).2]) ∧ w = w' := by
 by_cases hk : 1 ≤ k ∧ k ≤ 18
 ·rcases kinds k hk with rfl | rfl | rfl | rfl | rfl | rfl | rfl | rfl | rfl | rfl | rfl | rfl | rfl | rfl | rfl | rfl | rfl | rfl
  ·exact QY w
  ·exact Rq w
  ·exact RH w
  ·exact Ry w
  ·exact RA w
  ·exact QU w
  ·exact RG w
  ·exact Q9 w
  ·exact Rn w
  ·exact OJ w
  ·exact PN w
  ·exact Pj w
  ·exact Qd w
  ·exact PS w
  ·exact P7 w
  ·exact OG w
  ·exact O9 w
  ·exact Pp w
 ·have H : Hid (bW k = (-1, -1)) := by
   have : shapeOf k = (kZ, false) := by unfold shapeOf; rw [if_neg hk]
   show bW k = _
   unfold bW; rw [this]; rfl
  have h1 : (k == 1) = false := by simp; omega
  have h2 : (k == 2) = false := by simp; omega
  have h3 : (k == 3) = false := by simp; omega
  have h4 : (k == 4) = false := by simp; omega
  have h5 : (k == 5) = false := by simp; omega
  have h6 : (k == 6) = false := by simp; omega
  have h7 : (k == 7) = false := by simp; omega
  have h8 : (k == 8) = false := by simp; omega
  have h9 : (k == 9) = false := by simp; omega
  have h10 : (k == 10) = false := by simp; omega
  have h11 : (k == 11) = false := by simp; omega
  have h12 : (k == 12) = false := by simp; omega
  have h13 : (k == 13) = false := by simp; omega
  have h14 : (k == 14) = false := by simp; omega
  have h15 : (k == 15) = false := by simp; omega
  have h16 : (k == 16) = false := by simp; omega
  have h17 : (k == 17) = false := by simp; omega
  have h18 : (k == 18) = false := by simp; omega
  clear hk
  go_enter Tryz.func106, Tryz.ntmps106
  go_wp2
  go_ret2
  rw [H.out]
  exact ⟨rfl, rfl⟩
theorem Jq (k : Int) (h1 : ¬ k = 1) (h2 : ¬ k = 11) : (shapeOf k).1.num = 0 := by
 by_cases hk : 1 ≤ k ∧ k ≤ 18
 ·rcases kinds k hk with rfl | rfl | rfl | rfl | rfl | rfl | rfl | rfl | rfl | rfl | rfl | rfl | rfl | rfl | rfl | rfl | rfl | rfl <;> first | rfl | contradiction
 ·have : shapeOf k = (kZ, false) := by unfold shapeOf; rw [if_neg hk]
  rw [this]; rfl
theorem H8 (k : Int) : (shapeOf k).1.name = (k == 4 || k == 5 || k == 7 || k == 10) := by
 by_cases hk : 1 ≤ k ∧ k ≤ 18
 ·rcases kinds k hk with rfl | rfl | rfl | rfl | rfl | rfl | rfl | rfl | rfl | rfl | rfl | rfl | rfl | rfl | rfl | rfl | rfl | rfl <;> rfl
 ·have : shapeOf k = (kZ, false) := by unfold shapeOf; rw [if_neg hk]
  rw [this, Bool.eq_iff_iff]; simp [kZ]; omega
theorem Ee (k : Int) : 0 ≤ (shapeOf k).1.least := by
 by_cases hk : 1 ≤ k ∧ k ≤ 18
 ·rcases kinds k hk with rfl | rfl | rfl | rfl | rfl | rfl | rfl | rfl | rfl | rfl | rfl | rfl | rfl | rfl | rfl | rfl | rfl | rfl <;> decide
 ·have : shapeOf k = (kZ, false) := by unfold shapeOf; rw [if_neg hk]
  rw [this]; decide
theorem FC (x : Expr) : gY x = (!decide ((bW x.kind).1 < 0) && !decide ((x.kids.length : Int) < (bW x.kind).1) && !decide ((bW x.kind).2 < (x.kids.length : Int)) && decide (0 ≤ x.num) && decide (x.num ≤ (shapeOf x.kind).1.num) &&
 (if (shapeOf x.kind).1.name then bK x.name else x.name.data.toList.isEmpty)) := by
 rw [kU]
 have h := Ee x.kind
 unfold bW
 cases hok : (shapeOf x.kind).2 with
 | false => simp
 | true =>
   simp only [if_true]
   have e1 : (!decide ((shapeOf x.kind).1.least < 0)) = true := by simp; exact h
   have e2 : (!decide ((x.kids.length : Int) < (shapeOf x.kind).1.least)) = decide ((shapeOf x.kind).1.least ≤ x.kids.length) := by rw [Bool.eq_iff_iff]; simp
   have e3 : (!decide ((shapeOf x.kind).1.most < (x.kids.length : Int))) = decide ((x.kids.length : Int) ≤ (shapeOf x.kind).1.most) := by rw [Bool.eq_iff_iff]; simp
   rw [e1, e2, e3]
set_option maxHeartbeats 2000000 in
theorem En (d : Nat) : ∀ (w : World) (cs : List Value) (x : Expr), iG d w (· < w.heap.size) cs x →
 Calls Tryz.prog 81 #[.agg cs.toArray] w fun e w' => e = .returned (.bool (cK x)) ∧ Below w.heap.size w w' := by
 induction d using Nat.strongRecOn with
 | ind d ih =>
   intro w cs x hx
   obtain ⟨d', a', n', cap', hd, rfl, wk, wn, ws, hk⟩ := hx.inv
   have IH := Lib.hid ih
   have HT := Lib.hid (vY x)
   have HTT := Lib.hid (FC x)
   have hnum : x.num ≤ 9223372036854775807 := by have := wn; simp [Lit.wf, IntKind.min, IntKind.max, IntKind.signed, IntKind.bits] at this; omega
   obtain ⟨_, _, _, heq, hlen, _, hmx, hel⟩ := hk
   cases heq
   unfold l8 at hmx
   have HEL := Lib.hid hel
   have HL := Lib.hid hlen
   clear ih hx hlen hel wk wn
   have hKC : ∀ w : World, Calls Tryz.prog 106 #[.int .i64 x.kind] w fun e w' => e = .returned (.tuple #[.int .i64 (bW x.kind).1, .int .i64 (bW x.kind).2]) ∧ w = w' := LP x.kind
   have hTT := HTT.out
   rw [← Lib.toList_data, HL.out] at hTT
   clear HTT
   generalize hKO : bW x.kind = ko at *
   clear hKO
   obtain ⟨lo, hi⟩ := ko
   have HKC := Lib.hid hKC
   clear hKC
   simp only [] at hTT
   by_cases k1 : x.kind = 1
   case' pos =>
    have t1 : (x.kind == 1) = true := by simp [k1]
    have HC : Hid (gY x = (!decide (lo < 0) && !decide ((n' : Int) < lo) && !decide (hi < (n' : Int)) && decide (0 ≤ x.num) && x.name.toList.isEmpty)) := by
     show gY x = _
     rw [hTT, k1]
     simp [shapeOf, shapes, hnum]
    clear hTT k1
    cases hem : x.name.toList.isEmpty
    case' true => have hem2 : (!x.name.toList.isEmpty) = false := by rw [hem]; rfl
    case' false => have hem2 : (!x.name.toList.isEmpty) = true := by rw [hem]; rfl
   case' neg =>
    have t1 : (x.kind == 1) = false := by simp [k1]
    by_cases k2 : x.kind = 11
    case' pos =>
     have t2 : (x.kind == 11) = true := by simp [k2]
     have HC : Hid (gY x = (!decide (lo < 0) && !decide ((n' : Int) < lo) && !decide (hi < (n' : Int)) && decide (0 ≤ x.num) && decide (x.num ≤ 99) && x.name.toList.isEmpty)) := by
      show gY x = _
      rw [hTT, k2]
      simp [shapeOf, shapes]
     clear hTT k1 k2
     cases hem : x.name.toList.isEmpty
     case' true => have hem2 : (!x.name.toList.isEmpty) = false := by rw [hem]; rfl
     case' false => have hem2 : (!x.name.toList.isEmpty) = true := by rw [hem]; rfl
    case' neg =>
     have t2 : (x.kind == 11) = false := by simp [k2]
     have hsn := Jq x.kind k1 k2
     have hsm := H8 x.kind
     rw [hsn] at hTT
     have hzero : (decide (0 ≤ x.num) && decide (x.num ≤ 0)) = (x.num == 0) := by rw [Bool.eq_iff_iff]; simp; omega
     by_cases hnm : (shapeOf x.kind).1.name = true
     case' neg =>
      have hnm : (shapeOf x.kind).1.name = false := by simpa using hnm
      have HC : Hid (gY x = (!decide (lo < 0) && !decide ((n' : Int) < lo) && !decide (hi < (n' : Int)) && (x.num == 0) && x.name.toList.isEmpty)) := by
       show gY x = _
       rw [hTT, hnm, ← hzero]
       simp [Bool.and_assoc]
      rw [hnm] at hsm
      have hsm' : ((x.kind == 4) = false ∧ (x.kind == 5) = false ∧ (x.kind == 7) = false ∧ (x.kind == 10) = false) := by simp at hsm ⊢; omega
      obtain ⟨t4, t5, t7, t10⟩ := hsm'
      clear hTT k1 k2 hsn hsm hnm hzero
      cases hz0 : x.num == 0
      case' true => have hz1 : (x.num != 0) = false := by simp at hz0 ⊢; exact hz0
      case' false => have hz1 : (x.num != 0) = true := by simp at hz0 ⊢; exact hz0
      all_goals
       cases hem : x.name.toList.isEmpty
       case' true => have hem2 : (!x.name.toList.isEmpty) = false := by rw [hem]; rfl
       case' false => have hem2 : (!x.name.toList.isEmpty) = true := by rw [hem]; rfl
     case' pos =>
      have HC : Hid (gY x = (!decide (lo < 0) && !decide ((n' : Int) < lo) && !decide (hi < (n' : Int)) && (x.num == 0) && bK x.name)) := by
       show gY x = _
       rw [hTT, hnm, ← hzero]
       simp [Bool.and_assoc]
      rw [hnm] at hsm
      have hsm' : x.kind = 4 ∨ x.kind = 5 ∨ x.kind = 7 ∨ x.kind = 10 := by simp at hsm; omega
      clear hTT k1 k2 hsn hsm hnm hzero
      rcases hsm' with h4 | h4 | h4 | h4
      case' inl =>
       have t4 : (x.kind == 4) = true := by simp [h4]
       clear h4
      case' inr.inl =>
       have t4 : (x.kind == 4) = false := by simp [h4]
       have t5 : (x.kind == 5) = true := by simp [h4]
       clear h4
      case' inr.inr.inl =>
       have t4 : (x.kind == 4) = false := by simp [h4]
       have t5 : (x.kind == 5) = false := by simp [h4]
       have t7 : (x.kind == 7) = true := by simp [h4]
       clear h4
      case' inr.inr.inr =>
       have t4 : (x.kind == 4) = false := by simp [h4]
       have t5 : (x.kind == 5) = false := by simp [h4]
       have t7 : (x.kind == 7) = false := by simp [h4]
       have t10 : (x.kind == 10) = true := by simp [h4]
       clear h4
      all_goals
       cases hz0 : x.num == 0
       case' false => have hz1 : (x.num != 0) = true := by simp at hz0 ⊢; exact hz0
       case' true =>
        have hz1 : (x.num != 0) = false := by simp at hz0 ⊢; exact hz0
        cases hnm : bK x.name
   all_goals
    go_enter Tryz.func81, Tryz.ntmps81
    go_wp2_with (first
     | (go_at_call 106; refine (HKC.out _).mono ?_; rintro e w' ⟨rfl, rfl⟩)
     | (go_at_call 42; refine (dN _ ws _).mono ?_; rintro e w' ⟨rfl, rfl⟩))
    all_goals first
     | (go_ret
        refine ⟨aH ?_, by go_grown⟩
        rw [HT.out, HC.out]
        clear HT HC HEL HL IH HKC
        simp_all
        first | done | (intros; omega))
     | (have HTOP : Hid (gY x = true) := by
         show gY x = true
         rw [HC.out]
         clear HT HC HEL HL IH HKC
         simp_all
         first | done | (intros; omega)
        go_loopw [81] (fun v81 w' => ∃ j : Nat, j ≤ n' ∧ v81 = .int .i64 j ∧ Hid (x.kids.all cK = (x.kids.drop j).all cK) ∧ Hid (Below w.heap.size w w')) (fun v81 _ => n' - (intOf v81).toNat)
        case atStart => exact ⟨0, by omega, rfl, rfl, by show Below w.heap.size w _; go_grown⟩
        case round =>
         obtain ⟨j, hj, rfl, HP, HB⟩ := hrel
         by_cases hlt : j < n'
         ·obtain ⟨y, hy⟩ : ∃ y, x.kids[j]? = some y := ⟨_, List.getElem?_eq_getElem (by rw [HL.out]; exact hlt)⟩
          have HY := Lib.hid hy
          clear hy
          obtain ⟨b, off, cs, rfl, hbl, hc, hr⟩ := HEL.out j _ HY.out
          obtain ⟨d2, a2, n2, cap2, hd2, rfl, -⟩ := hr.inv
          have HR := Lib.hid hr
          obtain ⟨c0, c1, c2, c3, -⟩ := aW (HB.out.block b hbl) hc
          have HD : Hid (x.kids.drop j = y :: x.kids.drop (j + 1)) := drop_of_getElem? HY.out
          have HB1 : Hid (∀ X, Below w.heap.size w (wr.alloc X)) := fun X => HB.out.alloc HB.out.size X
          clear hc hr
          go_wp2_with fail
          (with_reducible refine (IH.out d' hd _ [_, _, _, _] y (HR.out.mono ?_ ?_)).mono ?_)
          ·exact fun k hk => Nat.lt_of_lt_of_le hk (HB1.out _).size
          ·exact fun k hk => (HB1.out _).block k hk
          rintro e w2 ⟨rfl, hb2⟩
          have HB2 : Hid (Below w.heap.size w w2) := dF (HB1.out _) hb2
          clear hb2
          cases hq : cK y with
          | false =>
            go_wp2
            go_ret
            exact ⟨aH (by rw [HT.out, HTOP.out, HP.out, HD.out]; simp [hq]), HB2.out⟩
          | true =>
            go_wp2
            have HP2 : Hid (x.kids.all cK = (x.kids.drop (j + 1)).all cK) := by
             show x.kids.all cK = (x.kids.drop (j + 1)).all cK
             rw [HP.out, HD.out]; simp [hq]
            refine ⟨?_, by simp [intOf]; omega⟩
            first
             | exact ⟨j + 1, by omega, by go_num, HP2, HB2⟩
             | ((repeat apply Exists.intro)
                refine ⟨⟨j + 1, by omega, ?_, HP2, HB2⟩, rfl⟩
                go_num)
         ·obtain rfl : j = n' := by omega
          have HE : Hid (x.kids.drop j = []) := List.drop_of_length_le (by rw [HL.out]; exact Nat.le_refl _)
          go_wp2
          go_ret
          exact ⟨aH (by rw [HT.out, HTOP.out, HP.out, HE.out]; rfl), HB.out⟩)
end Go.Proofs.YthhpcjoaogmhbaaGreatDoor
end
