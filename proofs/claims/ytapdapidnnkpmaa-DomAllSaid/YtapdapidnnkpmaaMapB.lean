/- A map[int]bool of the call's own that holds true alone: a set of ints. -/
import Derived.Test.YtapdapidnnkpmaaBasic
import Derived.Maps.OwnOps
import Derived.Maps.OwnSet
import Derived.Maps.Ext
import Derived.Carry
namespace Go.Proofs.Ytapdapidnnkpmaa
open Go.RowKit

theorem keyedInt : Maps.Keyed Try.prog 3 := Maps.int_keyed Try.underlying3
theorem zeroBool (w : World) : (zeroValue 4).run Try.prog w = .ok (.bool false) w := by kernel_rfl
theorem isKey_int (i : Int) : WideAt.IsKeyLit (.int .i64 i) := by simp [WideAt.IsKeyLit]
/-- Block b holds a map: true at the numbers of S, and nothing else; at most n entries. -/
structure MB (w : World) (b n : Nat) (S : Int → Bool) : Prop where
  own : ∃ D : DataW Unit, w.ownsMap Try.prog 3 (plainElem Try.prog 4) b n D ∧ (∀ i, Maps.has D (.int .i64 i) = S i ∧ (S i = true → ∀ z, D.atKey (.int .i64 i) z = .lit (.bool true))) ∧ ∃ l : List Int, l.Nodup ∧ (∀ i, i ∈ l ↔ S i = true) ∧ Maps.size D = l.length
theorem MB.lt {w : World} {b n : Nat} {S : Int → Bool} (h : MB w b n S) : b < w.heap.size := by obtain ⟨D, h, _⟩ := h.own; exact h.lt
theorem MB.below {w w' : World} {b n : Nat} {S : Int → Bool} (h : MB w b n S) (hb : Below w.heap.size w w') : MB w' b n S := by
  have hlt := h.lt
  obtain ⟨D, h, hh⟩ := h.own
  exact ⟨D, h.kept (row := none) ⟨hb.os, hb.tape, hb.output, hb.size, fun k hk _ => hb.block k hk⟩ (by simp), hh⟩
theorem MB.grown {w w' : World} {b n r : Nat} {S : Int → Bool} (h : MB w b n S) (hg : w.grownBy w' (some r)) (hne : b ≠ r) : MB w' b n S := by
  obtain ⟨D, h, hh⟩ := h.own
  exact ⟨D, h.kept hg (by simpa using hne), hh⟩
theorem MB.made (w : World) : MB (w.alloc (.map #[] 0)) w.heap.size 0 (fun _ => false) :=
  ⟨.map [], World.ownsMap_made _ _ _ _, fun i => ⟨rfl, (fun h => by cases h)⟩, [], List.nodup_nil, fun i => by simp, rfl⟩
theorem key_int {i : Int} (hw : (Lit.int .i64 i).wf = true) : keyOf Try.prog 3 (.int .i64 i) = some (.int .i64 i) := Maps.keyOf_int_mk Try.underlying3 hw

theorem MB.look {w : World} {b n : Nat} {S : Int → Bool} (h : MB w b n S) {i : Int} (hw : (Lit.int .i64 i).wf = true) : (Instr.lookup 37 (.map (some b)) (.int .i64 i) false).run Try.prog w = .ok (.bool (S i)) w := by
  obtain ⟨D, h, hh, -⟩ := h.own
  obtain ⟨v, ps, hrun, hR⟩ := h.lookup keyedInt Try.underlying37 (zeroBool w) (plainElem_bool Try.underlying4 false) (key_int hw)
  obtain ⟨h1, h2⟩ := hh i
  have hv : v = .bool (S i) := by
    cases hS : S i with
    | true =>
      rw [h2 hS] at hR
      unfold plainElem at hR
      rw [Try.underlying4] at hR
      split at hR <;> simp_all
    | false =>
      rw [Maps.atKey_of_not_has (by rw [h1, hS])] at hR
      unfold plainElem at hR
      rw [Try.underlying4] at hR
      split at hR <;> simp_all
  rw [hrun, hv]

theorem MB.put {w : World} {b n : Nat} {S : Int → Bool} (h : MB w b n S) (hn : n < maxLen) {i : Int} (hw : (Lit.int .i64 i).wf = true) :
    ∃ w', (Instr.mapUpdate 37 (.map (some b)) (.int .i64 i) (.bool true)).run Try.prog w = .ok () w' ∧ MB w' b (n + 1) (fun q => S q || decide (q = i)) ∧ w.grownBy w' (some b) := by
  obtain ⟨D, h, hh, l, hl, hm, hsz⟩ := h.own
  have ht := h.tidy keyedInt
  obtain ⟨w', hrun, h1, h2⟩ := h.update keyedInt Try.underlying37 hn (key_int hw) (plainElem_bool Try.underlying4 true)
  refine ⟨w', hrun, ⟨_, h1, fun q => ?_, ?_⟩, h2⟩
  rotate_left
  · rw [Maps.size_put ht, (hh i).1]
    cases hS : S i with
    | true =>
      refine ⟨l, hl, fun q => ?_, hsz⟩
      rw [hm]
      by_cases e : q = i
      · subst e; simp [hS]
      · simp [e]
    | false =>
      refine ⟨i :: l, List.nodup_cons.2 ⟨(fun hi => by rw [hm, hS] at hi; cases hi), hl⟩, fun q => ?_, by simp [hsz]⟩
      rw [List.mem_cons, hm]; simp [or_comm]
  by_cases e : q = i
  · subst e
    exact ⟨by rw [Maps.has_put_same h.isMap (isKey_int q)]; simp, fun _ z => Maps.atKey_put_same h.isMap (isKey_int q) _ z⟩
  · have hne : Lit.int .i64 q ≠ Lit.int .i64 i := fun hq => e (by injection hq)
    refine ⟨by rw [Maps.has_put_other hne, (hh q).1]; simp [e], fun hS z => ?_⟩
    rw [Maps.atKey_put_other hne]
    exact (hh q).2 (by simpa [e] using hS) z
theorem MB.cut {w : World} {b n : Nat} {S : Int → Bool} (h : MB w b n S) {i : Int} (hw : (Lit.int .i64 i).wf = true) (ty : TypeId) :
    ∃ w', (Builtin.delete_ #[37, 3] ty #[.map (some b), .int .i64 i]).run Try.prog w = .ok (.tuple #[]) w' ∧ MB w' b n (fun q => S q && decide (q ≠ i)) ∧ w.grownBy w' (some b) := by
  obtain ⟨D, h, hh, l, hl, hm, hsz⟩ := h.own
  have ht := h.tidy keyedInt
  obtain ⟨w', hrun, h1, h2⟩ := h.drop keyedInt Try.underlying37 (key_int hw) ty
  refine ⟨w', hrun, ⟨_, h1, fun q => ?_, ?_⟩, h2.grown⟩
  rotate_left
  · have hd := Maps.size_del (k := Lit.int .i64 i) ht
    rw [(hh i).1] at hd
    refine ⟨l.filter (· ≠ i), hl.filter _, fun q => ?_, ?_⟩
    · rw [List.mem_filter, hm]; simp
    · cases hS : S i with
      | true =>
        have hi : i ∈ l := (hm i).2 hS
        have h3 : (l.filter (· ≠ i)).length + 1 = l.length := by
          have e : l.filter (· ≠ i) = l.erase i := by
            rw [hl.erase_eq_filter]
            apply List.filter_congr
            intro x _
            rw [Bool.eq_iff_iff]; simp
          rw [e, List.length_erase_of_mem hi]
          have := List.length_pos_of_mem hi
          omega
        rw [hS] at hd
        simp at hd; omega
      | false =>
        have h3 : l.filter (· ≠ i) = l := by
          rw [List.filter_eq_self]
          intro a ha
          have := (hm a).1 ha
          simp; rintro rfl; rw [hS] at this; cases this
        rw [hS] at hd
        rw [h3]
        simp at hd; omega
  by_cases e : q = i
  · subst e
    exact ⟨by rw [Maps.has_del_same]; simp, (fun hS => by simp at hS)⟩
  · have hne : Lit.int .i64 q ≠ Lit.int .i64 i := fun hq => e (by injection hq)
    refine ⟨by rw [Maps.has_del_other hne, (hh q).1]; simp [e], fun hS z => ?_⟩
    rw [Maps.atKey_del_other hne]
    exact (hh q).2 (by simpa [e] using hS) z
theorem perm_len {l m : List Int} (hl : l.Nodup) (hm : m.Nodup) (h : ∀ x, x ∈ l ↔ x ∈ m) : l.length = m.length :=
  ((List.perm_ext_iff_of_nodup hl hm).2 h).length_eq
/-- How many there are: as many as in any list of them, each once. -/
theorem MB.len {w : World} {b n : Nat} {S : Int → Bool} (h : MB w b n S) (l : List Int) (hl : l.Nodup) (hS : ∀ i, S i = true ↔ i ∈ l) (ty : TypeId) :
    (Builtin.len_ #[37] ty #[.map (some b)]).run Try.prog w = .ok (.int .i64 (l.length : Nat)) w := by
  obtain ⟨D, h, -, m, hm, hmS, hsz⟩ := h.own
  rw [h.len Try.underlying37 ty, hsz, perm_len hl hm (fun x => by rw [hmS, hS])]
end Go.Proofs.Ytapdapidnnkpmaa
