/- Joined by my own program, in build order: Rwb. -/
import Derived.Test.YtnmfbaahabcocaaDoorY46
import Derived.Test.YtnmfbaahabcocaaDoorY40
set_option linter.unusedVariables false
set_option linter.unusedSimpArgs false
section
namespace Go.Proofs.YtnmfbaahabcocaaDoor
namespace V
open Go.RowKit
theorem MR.rewin {w0 w : World} {I0 I : Nat → Nat → Prop} {B : Nat → Value} {m : Mem} (hm : MR w0 I0 B I m w) {id : Nat} {ty e lo hi : Nat} {xs : List (List C)} (hj : m id = some (.mrow ty e xs)) (hh : hi ≤ xs.length) {v' : Value} (hx : RV B w I (.win id e lo hi) v') :
  MR w0 I0 (upd B id v') I (upd (killM id m) id (some (.mrow ty e ((xs.take hi).drop lo)))) w ∧ ∃ ad n cap, v' = .slice ad n cap := by
 obtain ⟨ad, n0, cap, hB, hlo, hhi, hv⟩ := hx
 obtain ⟨vs, hrow, hvs, hlx, hno⟩ := hm.objs id _ hj
 have hn0 : n0 = xs.length ∧ xs.length ≤ cap := by
  obtain ⟨ad', cp, e5, e6⟩ := hrow.shape
  rw [hB] at e5; cases e5; exact ⟨rfl, e6⟩
 obtain ⟨rfl, hnc⟩ := hn0
 have hvl := hvs.length
 have hfl := flat_len hlx
 have hlen : ((xs.take hi).drop lo).length = hi - lo := by simp; omega
 have hl1 : vs.length = xs.length * e := hrow.1
 have hle1 : hi * e ≤ xs.length * e := Nat.mul_le_mul_right e hh
 have hle2 : lo * e ≤ hi * e := Nat.mul_le_mul_right e hlo
 have hsub : (hi - lo) * e = hi * e - lo * e := Nat.sub_mul ..
 have hvl' : ((vs.take (hi * e)).drop (lo * e)).length = (hi - lo) * e := by simp; omega
 have hrow' : rowAt w ty e v' (hi - lo) ((vs.take (hi * e)).drop (lo * e)) := by
  refine ⟨hvl', ?_⟩
  rcases hrow.2 with ⟨e1, e2⟩ | ⟨g, off, c, cur, e1, hg, hnc', hm', hsz, htk⟩
  ·rw [hB] at e1
   simp only [Value.slice.injEq] at e1
   obtain ⟨rfl, -, rfl⟩ := e1
   obtain rfl : hi = 0 := by omega
   obtain rfl : lo = 0 := by omega
   exact .inl ⟨by rw [hv]; rfl, rfl⟩
  ·rw [hB] at e1
   cases e1
   by_cases hcl : cap = lo
   ·subst hcl
    obtain rfl : hi = cap := by omega
    refine .inr ⟨g, off, 0, cur, by rw [hv]; simp, hg, by omega, by omega, by omega, ?_⟩
    rw [Nat.sub_self, Nat.zero_mul, List.take_zero]
    exact (List.eq_nil_of_length_eq_zero (by rw [hvl']; simp)).symm
   ·have hcs : (cap - lo) * e = cap * e - lo * e := Nat.sub_mul ..
    have hle3 : lo * e ≤ cap * e := Nat.mul_le_mul_right e (by omega)
    refine .inr ⟨g, off + lo * e, cap - lo, cur, by rw [hv, if_neg hcl]; simp [Addr.add], hg, by omega, by omega, by omega, ?_⟩
    rw [← htk, List.take_take, Nat.min_eq_left (by omega), List.drop_take, List.drop_drop, ← hsub]
 have hob : v'.ownBlock = (B id).ownBlock ∨ v'.ownBlock = none := by
  rw [hv, hB]
  cases ad with
  | none => right; split <;> rfl
  | some z =>
   left
   split
   ·rfl
   ·obtain ⟨zb, zo, zs⟩ := z
    simp only [Value.ownBlock, Addr.add, Option.map_some]
    split <;> rfl
 have hflat : flat ((xs.take hi).drop lo) = ((flat xs).take (hi * e)).drop (lo * e) := by
  have ft : ∀ (k : Nat) (l : List (List C)), (∀ x ∈ l, x.length = e) → flat (l.take k) = (flat l).take (k * e) := by
   intro k
   induction k with
   | zero => intro l _; simp [flat]
   | succ k ih =>
    intro l hl
    cases l with
    | nil => simp [flat]
    | cons x l =>
     have hx := hl x (by simp)
     have := ih l (fun y hy => hl y (List.mem_cons_of_mem _ hy))
     have hk : (k + 1) * e = e + k * e := by rw [Nat.add_mul]; omega
     simp only [flat, List.take_succ_cons, List.flatten_cons] at this ⊢
     have h1 : x.length ≤ e + k * e := by omega
     have h2 : e + k * e - x.length = k * e := by omega
     rw [this, hk, List.take_append, List.take_of_length_le h1, h2]
  have fd : ∀ (k : Nat) (l : List (List C)), (∀ x ∈ l, x.length = e) → flat (l.drop k) = (flat l).drop (k * e) := by
   intro k
   induction k with
   | zero => intro l _; simp [flat]
   | succ k ih =>
    intro l hl
    cases l with
    | nil => simp [flat]
    | cons x l =>
     have hx := hl x (by simp)
     have := ih l (fun y hy => hl y (List.mem_cons_of_mem _ hy))
     have hk : (k + 1) * e = e + k * e := by rw [Nat.add_mul]; omega
     simp only [flat, List.drop_succ_cons, List.flatten_cons] at this ⊢
     have h1 : x.length ≤ e + k * e := by omega
     have h2 : e + k * e - x.length = k * e := by omega
     rw [this, hk, List.drop_append, List.drop_eq_nil_of_le h1, h2, List.nil_append]
  rw [fd _ _ (fun x hx => hlx x (List.mem_of_mem_take hx)), ft _ _ hlx]
 have hm' := hm.reval (id := id) (o' := .mrow ty e ((xs.take hi).drop lo)) (v' := v') (w' := w) (I' := I) hj rfl rfl rfl (Nat.le_refl _) (fun _ _ _ => rfl)
  (fun k hk => by
   have hk : (upd B id v' id).ownBlock = some k := hk
   rw [upd_same] at hk
   rcases hob with q | q
   ·rw [q] at hk; exact ⟨(hm.low id _ hj k hk).2, .inl hk⟩
   ·rw [q] at hk; cases hk)
  (Ext.refl _ _) (fun b p hp => .inl hp)
  ⟨_, by rw [upd_same, hlen]; exact hrow', by rw [hflat]; exact (hvs.take _).drop _, fun x hx => hlx x (List.mem_of_mem_take (List.mem_of_mem_drop hx)), fun b hb p hp => by
   rw [upd_same] at hb
   rcases hob with q | q
   ·rw [q] at hb; exact hno b hb p hp
   ·rw [q] at hb; cases hb⟩ (fun i hi => by simp [O.ids] at hi)
 obtain ⟨ad', cp', q, -⟩ := hrow'.shape
 exact ⟨hm', _, _, _, q⟩
end V
end Go.Proofs.YtnmfbaahabcocaaDoor
end
