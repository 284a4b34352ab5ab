/- Joined by my own program, in build order: Stmts. -/
import Derived.Test.YthhpcjoaogmhbaaGreatDoorG10
set_option linter.unusedVariables false
set_option linter.unusedSimpArgs false
section
namespace Go.Proofs.YthhpcjoaogmhbaaGreatDoor
open Go.RowKit
def bT (k : Int) : Int × Int := if k = 1 then (0, 1) else if k = 2 then (2, 2) else if 3 ≤ k ∧ k ≤ 7 then (1, 1) else (-1, -1)
def bF (x : Stmt) : Bool :=
 decide (0 ≤ (bT x.kind).1) && decide ((bT x.kind).1 ≤ x.exprs.length) && decide ((x.exprs.length : Int) ≤ (bT x.kind).2) &&
 (if x.kind = 1 then fC x.type && bK x.name else x.type.toList.isEmpty && x.name.toList.isEmpty) &&
 (if x.kind = 5 then decide (0 ≤ x.num) && decide (x.num ≤ 99) else x.num == 0) &&
 (x.kind == 3 || x.kind == 4 || x.thn.isEmpty) && (x.kind == 3 || x.els.isEmpty)
def pQ (k : Int) : Bool := k == 4 || k == 7 || k == 8
def bP (x : Stmt) : Bool := match x.exprs with
 | [] => true
 | e :: _ => if x.kind = 2 then pQ e.kind else if x.kind = 7 then e.kind == 10 else true
mutual
def bS : Stmt → Bool | ⟨k, n, t, nm, es, th, el⟩ => bF ⟨k, n, t, nm, es, th, el⟩ && es.all cK && bP ⟨k, n, t, nm, es, th, el⟩ && sS th && sS el
def sS : List Stmt → Bool | [] => true | x :: r => bS x && sS r
end
theorem pJ : ∀ l : List Stmt, sS l = l.all bS
 | [] => rfl
 | x :: r => by simp [sS, pJ r]
theorem Ef (x : Stmt) : bS x = (bF x && x.exprs.all cK && bP x && x.thn.all bS && x.els.all bS) := by
 cases x; simp [bS, pJ]
theorem Cx (k : Int) (w : World) : Calls Tryz.prog 108 #[.int .i64 k] w fun e w' => e = .returned (.bool (true)) ∧ w = w' := by
 go_enter Tryz.func108, Tryz.ntmps108
 go_wp2
 all_goals go_ret
 all_goals refine ⟨aH ?_, rfl⟩
 all_goals simp_all
theorem KO (k : Int) (w : World) : Calls Tryz.prog 109 #[.int .i64 k] w fun e w' => e = .returned (.bool (pQ k)) ∧ w = w' := by
 go_enter Tryz.func109, Tryz.ntmps109
 go_wp2
 all_goals go_ret
 all_goals refine ⟨aH ?_, rfl⟩
 all_goals simp_all [pQ]
theorem JK (k : Int) (w : World) : Calls Tryz.prog 110 #[.int .i64 k] w fun e w' => e = .returned (.bool (k == 10)) ∧ w = w' := by
 go_enter Tryz.func110, Tryz.ntmps110
 go_wp2
 all_goals go_ret
 all_goals refine ⟨aH ?_, rfl⟩
 all_goals simp_all
theorem wY (d : Nat) (w : World) (hM : jY w) (cs : List Value) (x : Expr) (hx : iG d w (· < w.heap.size) cs x) :
 Calls Tryz.prog 111 #[.agg cs.toArray] w fun e w' => e = .returned (.bool (!cK x)) ∧ Below w.heap.size w w' := by
 have HR := Lib.hid hx
 have HM := Lib.hid hM
 obtain ⟨d', a', n', cap', hd, rfl, -⟩ := hx.inv
 clear hx hM
 go_enter Tryz.func111, Tryz.ntmps111
 go_wp2_with fail
 (with_reducible refine (Fx d _ [_, _, _, _] x (HM.out.keep ?_) (HR.out.mono ?_ ?_)).mono ?_)
 ·go_grown
 ·exact fun k hk => by simp; omega
 ·exact fun k hk => Below.heap_alloc _ _ _ hk
 rintro e w' ⟨rfl, hb⟩
 have HB : Hid (Below w.heap.size w w') := dF (by go_grown) hb
 clear hb
 go_wp2
 go_ret
 exact ⟨rfl, HB.out⟩
theorem G5 (w : World) (k n : Int) (t s : ByteArray) (a a' a'' : Option Addr) (m m' m'' cap cap' cap'' : Nat) (p : Bool)
 (h : ∀ W, Below w.heap.size w W → Calls Tryz.prog 84 #[.agg #[.int .i64 k, .int .i64 n, .string t, .string s, .slice a m cap, .slice a' m' cap', .slice a'' m'' cap'']] W fun e w' => e = .returned (.bool p) ∧ Below W.heap.size W w') :
 Calls Tryz.prog 83 #[.agg #[.int .i64 k, .int .i64 n, .string t, .string s, .slice a m cap, .slice a' m' cap', .slice a'' m'' cap'']] w fun e w' => e = .returned (.bool (!p)) ∧ Below w.heap.size w w' := by
 have H := Lib.hid h
 clear h
 go_enter Tryz.func83, Tryz.ntmps83
 go_wp2_with fail
 refine (H.out _ (by go_grown)).mono ?_
 rintro e w' ⟨rfl, hb⟩
 have HB : Hid (Below w.heap.size w w') := dF (by go_grown) hb
 clear hb
 go_wp2
 go_ret
 exact ⟨rfl, HB.out⟩
theorem Eu (d : Nat) (hS : ∀ (w : World) (cs : List Value) (x : Stmt), jY w → gZ d w (· < w.heap.size) cs x → Calls Tryz.prog 84 #[.agg cs.toArray] w fun e w' => e = .returned (.bool (bS x)) ∧ Below w.heap.size w w')
 (w : World) (v : Value) (l : List Stmt) (hM : jY w) (h : jH d w (· < w.heap.size) v l) :
 Calls Tryz.prog 52 #[v] w fun e w' => e = .returned (.bool (l.all bS)) ∧ Below w.heap.size w w' := by
 have HM := Lib.hid hM
 have H := Lib.hid h
 have HS := Lib.hid hS
 clear hM h hS
 have hg : ∀ args W, (callFunc 83 args).run Tryz.prog W = .ok (.enter 83 args) W := fun _ _ => by kernel_rfl
 go_enter Tryz.func52, Tryz.ntmps52
 go_wp2_with fail
 refine (u7 (gZ d w (· < w.heap.size)) l (fun x => !bS x) 83 v w hg (fun cs x hx => by obtain ⟨_, _, _, _, _, _, _, _, _, _, _, rfl, _⟩ := hx.inv; rfl) H.out ?_).mono ?_
 ·intro W cs x hb _ hx
  obtain ⟨_, _, _, _, _, _, _, _, _, _, _, rfl, _⟩ := hx.inv
  refine G5 W _ _ _ _ _ _ _ _ _ _ _ _ _ _ (fun W' hb' => ?_)
  have hb2 : Below w.heap.size w W' := hb.trans (hb'.mono hb.size)
  exact HS.out W' _ x (HM.out.keep hb2) (hx.mono (fun k hk => Nat.lt_of_lt_of_le hk hb2.size) (fun k hk => hb2.block k hk))
 rintro e w' ⟨rfl, hb⟩
 have HB := Lib.hid hb
 clear hb
 go_wp2
 go_ret
 refine ⟨aH ?_, HB.out⟩
 rw [List.all_eq_not_any_not]
theorem kD {x : Stmt} {e : Expr} (h : x.exprs[0]? = some e) : bP x = if x.kind = 2 then pQ e.kind else if x.kind = 7 then e.kind == 10 else true := by
 cases hx : x.exprs with
 | nil => rw [hx] at h; simp at h
 | cons a r => rw [hx] at h; simp at h; subst h; unfold bP; rw [hx]
set_option maxHeartbeats 2000000 in
theorem LG (d : Nat) : ∀ (w : World) (cs : List Value) (x : Stmt), jY w → gZ d w (· < w.heap.size) cs x →
 Calls Tryz.prog 84 #[.agg cs.toArray] w fun e w' => e = .returned (.bool (bS x)) ∧ Below w.heap.size w w' := by
 induction d using Nat.strongRecOn with
 | ind d ih =>
   intro w cs x hM hx
   obtain ⟨d', a1, n1, cap1, a2, n2, cap2, a3, n3, cap3, hd, rfl, wk, wn, wt, ws, h4, h5, h6⟩ := hx.inv
   have HM := Lib.hid hM
   have IH := Lib.hid (Eu d' (ih d' hd))
   have HT := Lib.hid (Ef x)
   have HE := Lib.hid h4
   have H5 := Lib.hid h5
   have H6 := Lib.hid h6
   obtain ⟨_, _, _, heq, hl1, _, hm1, hel⟩ := h4
   cases heq
   obtain ⟨_, _, _, heq, hl2, _, hm2, _⟩ := h5
   cases heq
   obtain ⟨_, _, _, heq, hl3, _, hm3, _⟩ := h6
   cases heq
   unfold l8 at hm1 hm2 hm3
   have HEL := Lib.hid hel
   have HL1 := Lib.hid hl1
   have HL2 := Lib.hid hl2
   have HL3 := Lib.hid hl3
   have hg : ∀ args W, (callFunc 111 args).run Tryz.prog W = .ok (.enter 111 args) W := fun _ _ => by kernel_rfl
   have HG := Lib.hid hg
   clear ih hx hl1 hl2 hl3 hel wk wn hM hg
   by_cases k1 : x.kind = 1
   ·have t1 : (x.kind == 1) = true := by simp [k1]
    have t1' : (x.kind != 1) = false := by simp [k1]
    have HC : Hid (bF x = (decide (n1 ≤ 1) && fD ⟨x.type, x.name⟩ && (x.num == 0) && (n2 == 0) && (n3 == 0))) := by
     show bF x = _
     have e2 : x.thn.isEmpty = (n2 == 0) := by rw [← HL2.out]; cases x.thn <;> simp
     have e3 : x.els.isEmpty = (n3 == 0) := by rw [← HL3.out]; cases x.els <;> simp
     simp [bF, bT, k1, HL1.out, e2, e3, fD]
     rw [Bool.eq_iff_iff]; simp; omega
    have HK : Hid (x.kind = 1) := k1
    clear k1
    go_enter Tryz.func84, Tryz.ntmps84
    go_wp2_with (first
     | (go_at_call 55; refine (Au _ _ wt ws _ (HM.out.keep (by go_grown))).mono ?_; rintro e w1 ⟨rfl, hb1⟩
        have HB1 : Hid (Below w.heap.size w w1) := dF (by go_grown) hb1
        have q1 : w1.cell? ⟨w.heap.size, 1, none⟩ = some (.int .i64 x.num) := (hb1.cell (by simp)).trans (by simp)
        have q4 : w1.cell? ⟨w.heap.size, 4, none⟩ = some (.slice a1 n1 cap1) := (hb1.cell (by simp)).trans (by simp)
        have q0 : w1.cell? ⟨w.heap.size, 0, none⟩ = some (.int .i64 x.kind) := (hb1.cell (by simp)).trans (by simp)
        have q5 : w1.cell? ⟨w.heap.size, 5, none⟩ = some (.slice a2 n2 cap2) := (hb1.cell (by simp)).trans (by simp)
        have q6 : w1.cell? ⟨w.heap.size, 6, none⟩ = some (.slice a3 n3 cap3) := (hb1.cell (by simp)).trans (by simp)
        clear hb1))
    all_goals first
     | (go_ret
        refine ⟨aH ?_, by first | exact HB1.out | go_grown⟩
        rw [HT.out, HC.out]
        clear HT HC HEL HE H5 H6 IH HG HL1 HL2 HL3
        simp_all
        first | done | (intros; omega) | (intros; simp_all; done))
     | (have HTOP : Hid (bF x = true) := by
         show bF x = true
         rw [HC.out]
         clear HT HC HEL HE H5 H6 IH HG HL1 HL2 HL3
         simp_all
         first | done | (intros; omega) | (intros; simp_all; done)
        have hn1 : n1 = 0 ∨ n1 = 1 := by
         have : (↑n1 != min (↑n1 : Int) 1) = false := by assumption
         simp at this
         omega
        obtain ⟨wc, hwc⟩ : ∃ wc, wc = w1 := ⟨_, rfl⟩
        subst hwc
        have HBC := HB1
        rcases hn1 with rfl | rfl
        ·
          have Q0 := Lib.hid q0
          clear q0
          refine (jo (iG d' wc (· < wc.heap.size)) x.exprs (fun x => !cK x) 111 _ wc HG.out ?_ (HE.out.mono (fun k hk => Nat.lt_of_lt_of_le hk HBC.out.size) (fun k hk => HBC.out.block k hk)) ?_).mono ?_
          ·intro cs y hy; obtain ⟨_, _, _, _, _, rfl, _⟩ := hy.inv; rfl
          ·intro W cs y hb hy hr
           exact wY d' W ((HM.out.keep HBC.out).keep hb) cs y (hr.mono (fun k hk => Nat.lt_of_lt_of_le hk hb.size) (fun k hk => hb.block k hk))
          rintro e w2 ⟨rfl, hb2⟩
          have HB2 : Hid (Below w.heap.size w w2) := dF HBC.out hb2
          have r4 := next (o := 4) hb2 q4
          have r5 := next (o := 5) hb2 q5
          have r6 := next (o := 6) hb2 q6
          clear hb2 q4 q5 q6
          have HX : Hid (x.exprs.all cK = !(x.exprs.any fun x => !cK x)) := by show _ = _; rw [List.all_eq_not_any_not]
          cases hany : x.exprs.any fun x => !cK x with
          | true =>
            have HR : Hid (bS x = false) := by show bS x = false; rw [HT.out, HX.out, hany]; simp
            go_wp2
            go_ret
            exact ⟨aH HR.out.symm, HB2.out⟩
          | false =>
            have HX2 : Hid (x.exprs.all cK = true) := by show _ = _; rw [HX.out, hany]; rfl
            have HF : Hid (bP x = true) := by
             have : x.exprs = [] := List.length_eq_zero_iff.1 HL1.out
             show bP x = true
             unfold bP; rw [this]
            go_wp2_with fail
            all_goals first
             | (go_ret
                refine ⟨aH ?_, HB2.out⟩
                rw [HT.out, HF.out]
                simp only [*]
                simp
                done)
             | (go_ret
                refine ⟨aH ?_, HB2.out⟩
                rw [HT.out, HF.out]
                clear HT HX HX2 HEL HE H5 H6 IH HG HL1 HL2 HL3
                simp_all
                done)
             | (have HF2 : Hid (bP x = true) := by
                 show bP x = true
                 rw [HF.out]
                 all_goals (clear HT HX HX2 HEL HE H5 H6 IH HG HL1 HL2 HL3; simp_all)
                refine (IH.out w2 _ x.thn (HM.out.keep HB2.out) (H5.out.mono (fun k hk => Nat.lt_of_lt_of_le hk HB2.out.size) (fun k hk => HB2.out.block k hk))).mono ?_
                rintro e w3 ⟨rfl, hb3⟩
                have HB3 := jK hb3 HB2
                have s6 := next (o := 6) hb3 r6
                clear hb3 r4 r5 r6
                cases hth : x.thn.all bS with
                | false =>
                  go_wp2
                  go_ret
                  exact ⟨aH (by rw [HT.out, hth]; simp), HB3.out⟩
                | true =>
                  go_wp2_with fail
                  refine (IH.out w3 _ x.els (HM.out.keep HB3.out) (H6.out.mono (fun k hk => Nat.lt_of_lt_of_le hk HB3.out.size) (fun k hk => HB3.out.block k hk))).mono ?_
                  rintro e w4 ⟨rfl, hb4⟩
                  have HB4 := jK hb4 HB3
                  clear hb4
                  go_wp2
                  go_ret
                  exact ⟨aH (by rw [HT.out, HTOP.out, HX2.out, HF2.out, hth]; simp), HB4.out⟩)
        ·
          have Q0 := Lib.hid q0
          clear q0
          refine (jo (iG d' wc (· < wc.heap.size)) x.exprs (fun x => !cK x) 111 _ wc HG.out ?_ (HE.out.mono (fun k hk => Nat.lt_of_lt_of_le hk HBC.out.size) (fun k hk => HBC.out.block k hk)) ?_).mono ?_
          ·intro cs y hy; obtain ⟨_, _, _, _, _, rfl, _⟩ := hy.inv; rfl
          ·intro W cs y hb hy hr
           exact wY d' W ((HM.out.keep HBC.out).keep hb) cs y (hr.mono (fun k hk => Nat.lt_of_lt_of_le hk hb.size) (fun k hk => hb.block k hk))
          rintro e w2 ⟨rfl, hb2⟩
          have HB2 : Hid (Below w.heap.size w w2) := dF HBC.out hb2
          have r4 := next (o := 4) hb2 q4
          have r5 := next (o := 5) hb2 q5
          have r6 := next (o := 6) hb2 q6
          clear hb2 q4 q5 q6
          have HX : Hid (x.exprs.all cK = !(x.exprs.any fun x => !cK x)) := by show _ = _; rw [List.all_eq_not_any_not]
          cases hany : x.exprs.any fun x => !cK x with
          | true =>
            have HR : Hid (bS x = false) := by show bS x = false; rw [HT.out, HX.out, hany]; simp
            go_wp2
            go_ret
            exact ⟨aH HR.out.symm, HB2.out⟩
          | false =>
            have HX2 : Hid (x.exprs.all cK = true) := by show _ = _; rw [HX.out, hany]; rfl
            obtain ⟨y, hy⟩ : ∃ y, x.exprs[0]? = some y := ⟨_, List.getElem?_eq_getElem (by rw [HL1.out]; omega)⟩
            have HF : Hid (bP x = true) := by show bP x = _; rw [kD hy]; simp [HK.out]
            obtain ⟨b, off, cs, rfl, hbl, hc, hr⟩ := HEL.out 0 _ hy
            obtain ⟨_, _, _, _, _, rfl, -⟩ := hr.inv
            obtain ⟨c0, -⟩ := aW (HB2.out.block b hbl) hc
            have c0' : w2.cell? ⟨b, off, none⟩ = some (.int .i64 y.kind) := by simpa using c0
            clear c0 hc hr hy
            go_wp2_with (go_at_call 108; refine (Cx _ _).mono ?_; rintro e w' ⟨rfl, rfl⟩)
            all_goals first
             | (go_ret
                refine ⟨aH ?_, HB2.out⟩
                rw [HT.out, HF.out]
                simp only [*]
                simp
                done)
             | (go_ret
                refine ⟨aH ?_, HB2.out⟩
                rw [HT.out, HF.out]
                clear HT HX HX2 HEL HE H5 H6 IH HG HL1 HL2 HL3
                simp_all
                done)
             | (have HF2 : Hid (bP x = true) := by
                 show bP x = true
                 rw [HF.out]
                 all_goals (clear HT HX HX2 HEL HE H5 H6 IH HG HL1 HL2 HL3; simp_all)
                refine (IH.out w2 _ x.thn (HM.out.keep HB2.out) (H5.out.mono (fun k hk => Nat.lt_of_lt_of_le hk HB2.out.size) (fun k hk => HB2.out.block k hk))).mono ?_
                rintro e w3 ⟨rfl, hb3⟩
                have HB3 := jK hb3 HB2
                have s6 := next (o := 6) hb3 r6
                clear hb3 r4 r5 r6
                cases hth : x.thn.all bS with
                | false =>
                  go_wp2
                  go_ret
                  exact ⟨aH (by rw [HT.out, hth]; simp), HB3.out⟩
                | true =>
                  go_wp2_with fail
                  refine (IH.out w3 _ x.els (HM.out.keep HB3.out) (H6.out.mono (fun k hk => Nat.lt_of_lt_of_le hk HB3.out.size) (fun k hk => HB3.out.block k hk))).mono ?_
                  rintro e w4 ⟨rfl, hb4⟩
                  have HB4 := jK hb4 HB3
                  clear hb4
                  go_wp2
                  go_ret
                  exact ⟨aH (by rw [HT.out, HTOP.out, HX2.out, HF2.out, hth]; simp), HB4.out⟩))
   have t1 : (x.kind == 1) = false := by simp [k1]
   have hcat : x.type.size + x.name.size ≤ 9223372036854775807 := by unfold maxS at wt ws; omega
   have hcat2 : (x.type ++ x.name).toList.isEmpty = (x.type.toList.isEmpty && x.name.toList.isEmpty) := by
    simp only [Lib.toList_data]; rw [Bool.eq_iff_iff]; simp
   by_cases k2 : x.kind = 2
   focus
    have HC : Hid (bF x = (decide ((2 : Int) ≤ n1) && decide ((n1 : Int) ≤ 2) && (x.type.toList.isEmpty && x.name.toList.isEmpty) && x.num == 0 && n2 == 0 && n3 == 0)) := by
     show bF x = _
     have e2 : x.thn.isEmpty = (n2 == 0) := by rw [← HL2.out]; cases x.thn <;> simp
     have e3 : x.els.isEmpty = (n3 == 0) := by rw [← HL3.out]; cases x.els <;> simp
     simp [bF, bT, k2, HL1.out, e2, e3]
    have HFE : Hid (∀ y, x.exprs[0]? = some y → bP x = pQ y.kind) := fun y hy => by show bP x = _; rw [kD hy]; simp [k2]
    have tk : (x.kind == 2) = true := by simp [k2]
    have t1' : (x.kind != 1) = true := by simp [k2]
    clear k2 k1
   rotate_left 1
   have t2 : (x.kind == 2) = false := by simp [k2]
   by_cases k3 : x.kind = 3
   focus
    have HC : Hid (bF x = (decide ((1 : Int) ≤ n1) && decide ((n1 : Int) ≤ 1) && (x.type.toList.isEmpty && x.name.toList.isEmpty) && x.num == 0)) := by
     show bF x = _
     have e2 : x.thn.isEmpty = (n2 == 0) := by rw [← HL2.out]; cases x.thn <;> simp
     have e3 : x.els.isEmpty = (n3 == 0) := by rw [← HL3.out]; cases x.els <;> simp
     simp [bF, bT, k3, HL1.out, e2, e3]
    have HFE : Hid (∀ y, x.exprs[0]? = some y → bP x = true) := fun y hy => by show bP x = _; rw [kD hy]; simp [k3]
    have tk : (x.kind == 3) = true := by simp [k3]
    have t1' : (x.kind != 1) = true := by simp [k3]
    clear k3 k1
   rotate_left 1
   have t3 : (x.kind == 3) = false := by simp [k3]
   by_cases k4 : x.kind = 4
   focus
    have HC : Hid (bF x = (decide ((1 : Int) ≤ n1) && decide ((n1 : Int) ≤ 1) && (x.type.toList.isEmpty && x.name.toList.isEmpty) && x.num == 0 && n3 == 0)) := by
     show bF x = _
     have e2 : x.thn.isEmpty = (n2 == 0) := by rw [← HL2.out]; cases x.thn <;> simp
     have e3 : x.els.isEmpty = (n3 == 0) := by rw [← HL3.out]; cases x.els <;> simp
     simp [bF, bT, k4, HL1.out, e2, e3]
    have HFE : Hid (∀ y, x.exprs[0]? = some y → bP x = true) := fun y hy => by show bP x = _; rw [kD hy]; simp [k4]
    have tk : (x.kind == 4) = true := by simp [k4]
    have t1' : (x.kind != 1) = true := by simp [k4]
    clear k4 k1
   rotate_left 1
   have t4 : (x.kind == 4) = false := by simp [k4]
   by_cases k5 : x.kind = 5
   focus
    have HC : Hid (bF x = (decide ((1 : Int) ≤ n1) && decide ((n1 : Int) ≤ 1) && (x.type.toList.isEmpty && x.name.toList.isEmpty) && (decide (0 ≤ x.num) && decide (x.num ≤ 99)) && n2 == 0 && n3 == 0)) := by
     show bF x = _
     have e2 : x.thn.isEmpty = (n2 == 0) := by rw [← HL2.out]; cases x.thn <;> simp
     have e3 : x.els.isEmpty = (n3 == 0) := by rw [← HL3.out]; cases x.els <;> simp
     simp [bF, bT, k5, HL1.out, e2, e3]
    have HFE : Hid (∀ y, x.exprs[0]? = some y → bP x = true) := fun y hy => by show bP x = _; rw [kD hy]; simp [k5]
    have tk : (x.kind == 5) = true := by simp [k5]
    have t1' : (x.kind != 1) = true := by simp [k5]
    clear k5 k1
   rotate_left 1
   have t5 : (x.kind == 5) = false := by simp [k5]
   by_cases k6 : x.kind = 6
   focus
    have HC : Hid (bF x = (decide ((1 : Int) ≤ n1) && decide ((n1 : Int) ≤ 1) && (x.type.toList.isEmpty && x.name.toList.isEmpty) && x.num == 0 && n2 == 0 && n3 == 0)) := by
     show bF x = _
     have e2 : x.thn.isEmpty = (n2 == 0) := by rw [← HL2.out]; cases x.thn <;> simp
     have e3 : x.els.isEmpty = (n3 == 0) := by rw [← HL3.out]; cases x.els <;> simp
     simp [bF, bT, k6, HL1.out, e2, e3]
    have HFE : Hid (∀ y, x.exprs[0]? = some y → bP x = true) := fun y hy => by show bP x = _; rw [kD hy]; simp [k6]
    have tk : (x.kind == 6) = true := by simp [k6]
    have t1' : (x.kind != 1) = true := by simp [k6]
    clear k6 k1
   rotate_left 1
   have t6 : (x.kind == 6) = false := by simp [k6]
   by_cases k7 : x.kind = 7
   focus
    have HC : Hid (bF x = (decide ((1 : Int) ≤ n1) && decide ((n1 : Int) ≤ 1) && (x.type.toList.isEmpty && x.name.toList.isEmpty) && x.num == 0 && n2 == 0 && n3 == 0)) := by
     show bF x = _
     have e2 : x.thn.isEmpty = (n2 == 0) := by rw [← HL2.out]; cases x.thn <;> simp
     have e3 : x.els.isEmpty = (n3 == 0) := by rw [← HL3.out]; cases x.els <;> simp
     simp [bF, bT, k7, HL1.out, e2, e3]
    have HFE : Hid (∀ y, x.exprs[0]? = some y → bP x = (y.kind == 10)) := fun y hy => by show bP x = _; rw [kD hy]; simp [k7]
    have tk : (x.kind == 7) = true := by simp [k7]
    have t1' : (x.kind != 1) = true := by simp [k7]
    clear k7 k1
   rotate_left 1
   have t7 : (x.kind == 7) = false := by simp [k7]
   focus
    have HC : Hid (bS x = false) := by
     have : bF x = false := by
      unfold bF bT
      rw [if_neg k1, if_neg k2, if_neg (by omega)]; simp
     show bS x = false
     rw [HT.out, this]; simp
    clear k1 k2 k3 k4 k5 k6 k7
    go_enter Tryz.func84, Tryz.ntmps84
    go_wp2
    go_ret
    exact ⟨aH HC.out.symm, by go_grown⟩
   all_goals
    go_enter Tryz.func84, Tryz.ntmps84
    go_wp2_with fail
    all_goals first
     | (go_ret
        refine ⟨aH ?_, by go_grown⟩
        rw [HT.out, HC.out]
        clear HT HC HEL HE H5 H6 IH HG HL1 HL2 HL3
        simp_all
        first | done | (intros; omega) | (intros; simp_all; done))
     | (have HTOP : Hid (bF x = true) := by
         show bF x = true
         rw [HC.out]
         clear HT HC HEL HE H5 H6 IH HG HL1 HL2 HL3
         simp_all
         first | done | (intros; omega) | (intros; simp_all; done)
        have hn1 : 1 ≤ n1 := by
         have h0 := HTOP.out
         rw [HC.out] at h0
         simp at h0
         omega
        generalize hwc : w.alloc _ = wc
        have HBC : Hid (Below w.heap.size w wc) := by rw [← hwc]; show Below w.heap.size w _; go_grown
        have q0 : wc.cell? ⟨w.heap.size, 0, none⟩ = some (.int .i64 x.kind) := by rw [← hwc]; simp
        have q4 : wc.cell? ⟨w.heap.size, 4, none⟩ = some (.slice a1 n1 cap1) := by rw [← hwc]; simp
        have q5 : wc.cell? ⟨w.heap.size, 5, none⟩ = some (.slice a2 n2 cap2) := by rw [← hwc]; simp
        have q6 : wc.cell? ⟨w.heap.size, 6, none⟩ = some (.slice a3 n3 cap3) := by rw [← hwc]; simp
        clear hwc
        have Q0 := Lib.hid q0
        clear q0
        refine (jo (iG d' wc (· < wc.heap.size)) x.exprs (fun x => !cK x) 111 _ wc HG.out ?_ (HE.out.mono (fun k hk => Nat.lt_of_lt_of_le hk HBC.out.size) (fun k hk => HBC.out.block k hk)) ?_).mono ?_
        ·intro cs y hy; obtain ⟨_, _, _, _, _, rfl, _⟩ := hy.inv; rfl
        ·intro W cs y hb hy hr
         exact wY d' W ((HM.out.keep HBC.out).keep hb) cs y (hr.mono (fun k hk => Nat.lt_of_lt_of_le hk hb.size) (fun k hk => hb.block k hk))
        rintro e w2 ⟨rfl, hb2⟩
        have HB2 : Hid (Below w.heap.size w w2) := dF HBC.out hb2
        have r4 := next (o := 4) hb2 q4
        have r5 := next (o := 5) hb2 q5
        have r6 := next (o := 6) hb2 q6
        clear hb2 q4 q5 q6
        have HX : Hid (x.exprs.all cK = !(x.exprs.any fun x => !cK x)) := by show _ = _; rw [List.all_eq_not_any_not]
        cases hany : x.exprs.any fun x => !cK x with
        | true =>
          have HR : Hid (bS x = false) := by show bS x = false; rw [HT.out, HX.out, hany]; simp
          go_wp2
          go_ret
          exact ⟨aH HR.out.symm, HB2.out⟩
        | false =>
          have HX2 : Hid (x.exprs.all cK = true) := by show _ = _; rw [HX.out, hany]; rfl
          obtain ⟨y, hy⟩ : ∃ y, x.exprs[0]? = some y := ⟨_, List.getElem?_eq_getElem (by rw [HL1.out]; omega)⟩
          have HF := Lib.hid (HFE.out y hy)
          clear HFE
          obtain ⟨b, off, cs, rfl, hbl, hc, hr⟩ := HEL.out 0 _ hy
          obtain ⟨_, _, _, _, _, rfl, -⟩ := hr.inv
          obtain ⟨c0, -⟩ := aW (HB2.out.block b hbl) hc
          have c0' : w2.cell? ⟨b, off, none⟩ = some (.int .i64 y.kind) := by simpa using c0
          clear c0 hc hr hy
          go_wp2_with (first | (go_at_call 108; refine (Cx _ _).mono ?_; rintro e w' ⟨rfl, rfl⟩) | (go_at_call 109; refine (KO _ _).mono ?_; rintro e w' ⟨rfl, rfl⟩) | (go_at_call 110; refine (JK _ _).mono ?_; rintro e w' ⟨rfl, rfl⟩))
          all_goals first
           | (go_ret
              refine ⟨aH ?_, HB2.out⟩
              rw [HT.out, HF.out]
              simp only [*]
              simp
              done)
           | (go_ret
              refine ⟨aH ?_, HB2.out⟩
              rw [HT.out, HF.out]
              clear HT HX HX2 HEL HE H5 H6 IH HG HL1 HL2 HL3
              simp_all
              done)
           | (have HF2 : Hid (bP x = true) := by
               show bP x = true
               rw [HF.out]
               all_goals (clear HT HX HX2 HEL HE H5 H6 IH HG HL1 HL2 HL3; simp_all)
              refine (IH.out w2 _ x.thn (HM.out.keep HB2.out) (H5.out.mono (fun k hk => Nat.lt_of_lt_of_le hk HB2.out.size) (fun k hk => HB2.out.block k hk))).mono ?_
              rintro e w3 ⟨rfl, hb3⟩
              have HB3 := jK hb3 HB2
              have s6 := next (o := 6) hb3 r6
              clear hb3 r4 r5 r6
              cases hth : x.thn.all bS with
              | false =>
                go_wp2
                go_ret
                exact ⟨aH (by rw [HT.out, hth]; simp), HB3.out⟩
              | true =>
                go_wp2_with fail
                refine (IH.out w3 _ x.els (HM.out.keep HB3.out) (H6.out.mono (fun k hk => Nat.lt_of_lt_of_le hk HB3.out.size) (fun k hk => HB3.out.block k hk))).mono ?_
                rintro e w4 ⟨rfl, hb4⟩
                have HB4 := jK hb4 HB3
                clear hb4
                go_wp2
                go_ret
                exact ⟨aH (by rw [HT.out, HTOP.out, HX2.out, HF2.out, hth]; simp), HB4.out⟩))
end Go.Proofs.YthhpcjoaogmhbaaGreatDoor
end
