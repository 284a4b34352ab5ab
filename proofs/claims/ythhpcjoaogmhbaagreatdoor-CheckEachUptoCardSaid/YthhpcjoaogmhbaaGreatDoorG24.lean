/- Joined by my own program, in build order: Once. -/
import Derived.Test.YthhpcjoaogmhbaaGreatDoorG23
set_option linter.unusedVariables false
set_option linter.unusedSimpArgs false
section
namespace Go.Proofs.YthhpcjoaogmhbaaGreatDoor
open Go.RowKit
abbrev Bytes := List UInt8
theorem zK : Maps.Keyed Tryz.prog 9 := Maps.string_keyed Tryz.underlying9
theorem Pk (w : World) : (zeroValue 3).run Tryz.prog w = .ok (.int .i64 0) w := by kernel_rfl
theorem KE (s : Bytes) : WideAt.IsKeyLit (.string s) := by simp [WideAt.IsKeyLit]
theorem IC {s : ByteArray} (h : s.size ≤ maxLen) : keyOf Tryz.prog 9 (.string s) = some (.string s.data.toList) := WideMaps.keyOf_string_mk Tryz.underlying9 h
def firsts (l : List Bytes) : List Bytes := l.foldl (fun a x => if x ∈ a then a else a ++ [x]) []
theorem xX (l : List Bytes) (x : Bytes) : firsts (l ++ [x]) = if x ∈ firsts l then firsts l else firsts l ++ [x] := by
 unfold firsts
 rw [List.foldl_append]
 rfl
theorem vE : ∀ l : List Bytes, (firsts l.reverse).Nodup ∧ (∀ x, x ∈ firsts l.reverse ↔ x ∈ l.reverse) ∧ (firsts l.reverse).length ≤ l.reverse.length ∧ ((firsts l.reverse).length = l.reverse.length ↔ l.reverse.Nodup)
 | [] => by simp [firsts]
 | x :: l => by
   obtain ⟨h1, h2, h3, h4⟩ := vE l
   rw [List.reverse_cons, xX]
   by_cases hx : x ∈ firsts l.reverse
   ·rw [if_pos hx]
    refine ⟨h1, fun y => ?_, by rw [List.length_append]; omega, ?_⟩
    ·rw [h2, List.mem_append]
     constructor
     ·exact .inl
     ·rintro (h | h)
      ·exact h
      ·rw [List.mem_singleton.1 h]; exact (h2 x).1 hx
    ·rw [List.length_append, List.nodup_append]
     constructor
     ·intro h; simp at h; simp at h3; omega
     ·rintro ⟨-, -, h⟩
      exact absurd rfl (h x ((h2 x).1 hx) x (by simp))
   ·rw [if_neg hx]
    have hx2 : x ∉ l.reverse := fun h => hx ((h2 x).2 h)
    refine ⟨?_, fun y => by rw [List.mem_append, List.mem_append, h2], by rw [List.length_append, List.length_append]; omega, ?_⟩
    ·rw [List.nodup_append]
     exact ⟨h1, by simp, fun a ha b hb => by rw [List.mem_singleton.1 hb]; rintro rfl; exact hx ha⟩
    ·rw [List.length_append, List.length_append, List.nodup_append]
     constructor
     ·intro h
      refine ⟨h4.1 (by simpa using h), by simp, fun a ha b hb => by rw [List.mem_singleton.1 hb]; rintro rfl; exact hx2 ha⟩
     ·rintro ⟨h, -, -⟩
      have := h4.2 h
      omega
theorem Ab (l : List Bytes) : (firsts l).Nodup ∧ (∀ x, x ∈ firsts l ↔ x ∈ l) ∧ (firsts l).length ≤ l.length ∧ ((firsts l).length = l.length ↔ l.Nodup) := by
 have h := vE l.reverse
 rwa [List.reverse_reverse] at h
structure MK (w : World) (b n : Nat) (l : List Bytes) : Prop where
 own : ∃ D : DataW Unit, w.ownsMap Tryz.prog 9 (plainElem Tryz.prog 3) b n D ∧ (∀ s, Maps.has D (.string s) = decide (s ∈ l)) ∧ Maps.size D = (firsts l).length
theorem MK.made (w : World) : MK (w.alloc (.map #[] 0)) w.heap.size 0 [] :=
 ⟨.map [], World.ownsMap_made _ _ _ _, fun _ => rfl, rfl⟩
theorem MK.look {w : World} {b n : Nat} {l : List Bytes} (h : MK w b n l) {s : ByteArray} (hs : s.size ≤ maxLen) : ∃ c, (Instr.lookup 92 (.map (some b)) (.string s) false).run Tryz.prog w = .ok (.int .i64 c) w := by
 obtain ⟨D, h, -⟩ := h.own
 obtain ⟨c, hrun, -, -⟩ := h.lookup_int zK Tryz.underlying92 Tryz.underlying3 (Pk w) (IC hs)
 exact ⟨c, hrun⟩
theorem MK.put {w : World} {b n : Nat} {l : List Bytes} (h : MK w b n l) (hn : n < maxLen) {s : ByteArray} (hs : s.size ≤ maxLen) {c : Int} (hc : (Lit.int .i64 c).wf = true) :
 ∃ w', (Instr.mapUpdate 92 (.map (some b)) (.string s) (.int .i64 c)).run Tryz.prog w = .ok () w' ∧ MK w' b (n + 1) (l ++ [s.data.toList]) ∧ w.grownBy w' (some b) := by
 obtain ⟨D, h, hh, hsz⟩ := h.own
 have ht := h.tidy zK
 obtain ⟨w', hrun, h1, h2⟩ := h.update zK Tryz.underlying92 hn (IC hs) (plainElem_int Tryz.underlying3 hc)
 refine ⟨w', hrun, ⟨_, h1, fun q => ?_, ?_⟩, h2⟩
 ·by_cases e : q = s.data.toList
  ·subst e; rw [Maps.has_put_same h.isMap (KE _)]; simp
  ·have hne : Lit.string q ≠ Lit.string s.data.toList := fun hq => e (by injection hq)
   rw [Maps.has_put_other hne, hh q]
   simp [e]
 ·rw [Maps.size_put ht, hh, hsz, xX]
  have hm := (Ab l).2.1 s.data.toList
  by_cases hx : s.data.toList ∈ l
  ·rw [if_pos (hm.2 hx)]; simp [hx]
  ·rw [if_neg (fun k => hx (hm.1 k))]; simp [hx]
theorem MK.len {w : World} {b n : Nat} {l : List Bytes} (h : MK w b n l) (ty : TypeId) : (Builtin.len_ #[92] ty #[.map (some b)]).run Tryz.prog w = .ok (.int .i64 ((firsts l).length : Nat)) w := by
 obtain ⟨D, h, -, hsz⟩ := h.own
 rw [h.len Tryz.underlying92 ty, hsz]
def jZ (l : List ByteArray) : Bool := decide ((l.map fun s => s.data.toList).Nodup)
set_option maxHeartbeats 1000000 in
theorem LK (v : Value) (l : List ByteArray) (w : World) (hv : FU w v l) (hl : l.length ≤ 1000000000000) (hsz : ∀ s ∈ l, s.size ≤ maxLen) :
 Calls Tryz.prog 26 #[v] w fun e w' => e = .returned (.bool (jZ l)) ∧ Below w.heap.size w w' := by
 obtain ⟨a, m, cap, rfl, hm, hmax, hel⟩ := hv
 have H := Lib.hid hel
 have HN := Lib.hid hm
 have HS := Lib.hid hsz
 rw [hm] at hl
 clear hel hm hsz
 have hmm := @run_makeMap Tryz.prog
 have M0 : Hid (MK (w.alloc (.map #[] 0)) w.heap.size 0 ((l.take 0).map fun s => s.data.toList)) := MK.made w
 go_enter Tryz.func26, Tryz.ntmps26
 go_wp2
 clear hmm
 go_loopw [9] (fun v9 wr => ∃ j : Nat, j ≤ m ∧ v9 = .int .i64 j ∧ Hid (MK wr w.heap.size j ((l.take j).map fun s => s.data.toList)) ∧ Hid (Below w.heap.size w wr)) (fun v9 _ => m - (intOf v9).toNat)
 case atStart => exact ⟨0, by omega, rfl, M0, (Below.refl _ _).alloc (Nat.le_refl _) _⟩
 case round =>
  clear M0
  obtain ⟨j, hj, rfl, HM, HB⟩ := hrel
  by_cases hlt : j < m
  ·obtain ⟨x, hx⟩ : ∃ x, l[j]? = some x := ⟨_, List.getElem?_eq_getElem (by rw [HN.out]; exact hlt)⟩
   obtain ⟨b, off, rfl, hbl, hc⟩ := H.out j _ hx
   have d0 := (HB.out.cell (p := ⟨b, off + j, none⟩) hbl).trans hc
   have hxs := HS.out x (List.mem_of_getElem? hx)
   obtain ⟨c, hlook⟩ := HM.out.look hxs
   obtain ⟨w3, hput, hm3, hg3⟩ := HM.out.put (by unfold maxLen; omega) hxs (c := wrap64 (c + 1)) (RowKit.wrap64_wf _)
   have HM3 : Hid (MK w3 w.heap.size (j + 1) ((l.take (j + 1)).map fun s => s.data.toList)) := by
    show MK w3 w.heap.size (j + 1) ((l.take (j + 1)).map fun s => s.data.toList)
    rw [List.take_add_one, hx]
    simpa using hm3
   have HB3 : Hid (Below w.heap.size w w3) := HB.out.grown hg3 HB.out.size (fun q hq => by cases hq; exact Nat.le_refl _)
   clear hx hc hbl hm3 hg3 hxs
   go_wp2
   exact ⟨⟨j + 1, by omega, by go_num, HM3, HB3⟩, by simp [intOf]; omega⟩
  ·obtain rfl : m = j := by omega
   have hlen := HM.out.len 3
   rw [List.take_of_length_le (by rw [HN.out]; exact Nat.le_refl _)] at hlen
   have hf := Ab (l.map fun s => s.data.toList)
   rw [List.length_map, HN.out] at hf
   have HF : Hid (jZ l = decide ((firsts (l.map fun s => s.data.toList)).length = m)) := by
    show jZ l = _
    unfold jZ
    exact decide_eq_decide.2 hf.2.2.2.symm
   generalize hq : (firsts (l.map fun s => s.data.toList)).length = q at *
   clear hf hq
   go_wp2
   go_ret
   refine ⟨?_, HB.out⟩
   rw [HF.out]
   exact aH (by rw [Bool.eq_iff_iff]; simp; omega)
end Go.Proofs.YthhpcjoaogmhbaaGreatDoor
end
