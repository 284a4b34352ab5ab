/- Joined by my own program, in build order: Exprs. -/
import Derived.Test.YthhpcjoaogmhbaaGreatDoorG8
set_option linter.unusedVariables false
set_option linter.unusedSimpArgs false
section
namespace Go.Proofs.YthhpcjoaogmhbaaGreatDoor
open Go.RowKit
def gY (x : Expr) : Bool :=
 (shapeOf x.kind).2 && decide ((shapeOf x.kind).1.least ≤ x.kids.length) && decide ((x.kids.length : Int) ≤ (shapeOf x.kind).1.most) && decide (0 ≤ x.num) && decide (x.num ≤ (shapeOf x.kind).1.num) &&
   (if (shapeOf x.kind).1.name then bK x.name else x.name.data.toList.isEmpty)
mutual
def cK : Expr → Bool | ⟨k, n, nm, kids⟩ => gY ⟨k, n, nm, kids⟩ && og kids
def og : List Expr → Bool | [] => true | x :: r => cK x && og r
end
theorem sV : ∀ l : List Expr, og l = l.all cK
 | [] => rfl
 | x :: r => by simp [og, sV r]
theorem vY (x : Expr) : cK x = (gY x && x.kids.all cK) := by
 cases x; simp [cK, sV]
theorem kU (x : Expr) : gY x = ((shapeOf x.kind).2 && decide ((shapeOf x.kind).1.least ≤ x.kids.length) && decide ((x.kids.length : Int) ≤ (shapeOf x.kind).1.most) && decide (0 ≤ x.num) && decide (x.num ≤ (shapeOf x.kind).1.num) &&
 (if (shapeOf x.kind).1.name then bK x.name else x.name.data.toList.isEmpty)) := rfl
theorem Jo (w : World) (k n : Int) (s : ByteArray) (a : Option Addr) (m cap : Nat) (p : Bool) (h : ∀ W, Below w.heap.size w W → Calls Tryz.prog 30 #[.agg #[.int .i64 k, .int .i64 n, .string s, .slice a m cap]] W fun e w' => e = .returned (.bool p) ∧ Below W.heap.size W w') :
 Calls Tryz.prog 65 #[.agg #[.int .i64 k, .int .i64 n, .string s, .slice a m cap]] w fun e w' => e = .returned (.bool (!p)) ∧ Below w.heap.size w w' := by
 have H := Lib.hid h
 clear h
 go_enter Tryz.func65, Tryz.ntmps65
 go_wp2_with fail
 refine (H.out _ (by go_grown)).mono ?_
 rintro e w' ⟨rfl, hb⟩
 have HB : Hid (Below w.heap.size w w') := dF (by go_grown) hb
 clear hb
 go_wp2
 go_ret
 exact ⟨rfl, HB.out⟩
theorem Fx (d : Nat) : ∀ (w : World) (cs : List Value) (x : Expr), jY w → iG d w (· < w.heap.size) cs x →
 Calls Tryz.prog 30 #[.agg cs.toArray] w fun e w' => e = .returned (.bool (cK x)) ∧ Below w.heap.size w w' := by
 induction d using Nat.strongRecOn with
 | ind d ih =>
   intro w cs x hM hx
   obtain ⟨d', a', n', cap', hd, rfl, wk, wn, ws, hk⟩ := hx.inv
   have HM := Lib.hid hM
   have HK := Lib.hid hk
   have IH := Lib.hid ih
   have HT := Lib.hid (vY x)
   have HTT := Lib.hid (kU x)
   obtain ⟨_, _, _, heq, hlen, _, hmx, _⟩ := HK.out
   cases heq
   unfold l8 at hmx
   have hg : ∀ args W, (callFunc 65 args).run Tryz.prog W = .ok (.enter 65 args) W := fun _ _ => by kernel_rfl
   have HG := Lib.hid hg
   have HL := Lib.hid hlen
   clear hM hk ih hx hg hlen
   go_enter Tryz.func30, Tryz.ntmps30
   go_wp2_with fail
   refine (Lm _ _).mono ?_
   rintro e w1 ⟨rfl, hb1⟩
   have HB1 : Hid (Below w.heap.size w w1) := dF (by go_grown) hb1
   have k0 : w1.cell? ⟨w.heap.size, 0, none⟩ = some (.int .i64 x.kind) := (hb1.cell (by simp)).trans (by simp)
   have k1 : w1.cell? ⟨w.heap.size, 1, none⟩ = some (.int .i64 x.num) := (hb1.cell (by simp)).trans (by simp)
   have k2 : w1.cell? ⟨w.heap.size, 2, none⟩ = some (.string x.name) := (hb1.cell (by simp)).trans (by simp)
   have k3 : w1.cell? ⟨w.heap.size, 3, none⟩ = some (.slice a' n' cap') := (hb1.cell (by simp)).trans (by simp)
   have hsz : w.heap.size < w1.heap.size := vZ k0
   clear hb1
   generalize shapeOf x.kind = so at *
   obtain ⟨⟨s0, s1, s2, s3, s4, s5⟩, ok⟩ := so
   simp only [Shape.val]
   go_wp2_with (first
    | (go_at_call 53; refine (uK (HM.out.keep (HB1.out.alloc HB1.out.size _)) _ ws).mono ?_; rintro e w' ⟨rfl, rfl⟩))
   all_goals first
    | (go_ret
       refine ⟨aH ?_, HB1.out.alloc HB1.out.size _⟩
       rw [HT.out, HTT.out, HL.out]
       simp [*]
       done)
    | (go_ret
       refine ⟨aH ?_, HB1.out.alloc HB1.out.size _⟩
       rw [HT.out, HTT.out, HL.out]
       try (have hz := ‹(!x.name.toList.isEmpty) = true›; simp at hz)
       simp [*, ← Lib.toList_data]
       done)
    | (go_ret
       refine ⟨aH ?_, HB1.out.alloc HB1.out.size _⟩
       rw [HT.out, HTT.out, HL.out]
       try (have hz := ‹(!x.name.toList.isEmpty) = true›; simp at hz)
       simp [*, ← Lib.toList_data]
       omega)
    | (have HTOP : Hid (gY x = true) := by
        show gY x = true
        rw [HTT.out, HL.out]
        try (have hz := ‹(!x.name.toList.isEmpty) = false›; simp at hz)
        simp [*, ← Lib.toList_data]
        try omega
       clear HTT
       have HB2 : Hid (∀ X, Below w.heap.size w (w1.alloc X)) := fun X => HB1.out.alloc HB1.out.size X
       refine (jo (iG d' (w1.alloc _) (· < (w1.alloc _).heap.size)) x.kids (fun x => !cK x) 65 _ _ HG.out ?_ (HK.out.mono (fun k hk => ?_) (fun k hk => ?_)) ?_).mono ?_
       ·intro cs y hy; obtain ⟨_, _, _, _, _, rfl, _⟩ := hy.inv; rfl
       ·exact Nat.lt_of_lt_of_le hk (HB2.out _).size
       ·exact (HB2.out _).block k hk
       ·intro W cs y hb hy hr
        obtain ⟨_, _, _, _, _, rfl, _⟩ := hr.inv
        refine Jo W _ _ _ _ _ _ _ (fun W' hb' => ?_)
        have hb2 : Below (w1.alloc _).heap.size (w1.alloc _) W' := hb.trans (hb'.mono hb.size)
        exact IH.out d' hd W' _ y ((HM.out.keep (HB2.out _)).keep hb2) (hr.mono (fun k hk => Nat.lt_of_lt_of_le hk hb2.size) (fun k hk => hb2.block k hk))
       rintro e w2 ⟨rfl, hb2⟩
       have HB3 : Hid (Below w.heap.size w w2) := dF (HB2.out _) hb2
       clear hb2
       go_wp2
       go_ret
       refine ⟨aH ?_, HB3.out⟩
       rw [HT.out, HTOP.out, List.all_eq_not_any_not]
       simp)
end Go.Proofs.YthhpcjoaogmhbaaGreatDoor
end
