/- Joined by my own program, in build order: Overs. -/
import Derived.Test.YtnmfbaahabcocaaDoorY31
import Derived.Test.YtnmfbaahabcocaaDoorY13
import Derived.Test.YtnmfbaahabcocaaDoorY19
import Derived.Test.YtnmfbaahabcocaaDoorY33
set_option linter.unusedVariables false
set_option linter.unusedSimpArgs false
section
namespace Go.Proofs.YtnmfbaahabcocaaDoor
open Go.RowKit
open Classical in
noncomputable def domB (E : List (Nat × Nat)) (s a b : Nat) : Bool := decide (Dom E s a b)
theorem domB_iff {E : List (Nat × Nat)} {s a b : Nat} : domB E s a b = true ↔ Dom E s a b := by simp [domB]
noncomputable def oversL (E : List (Nat × Nat)) (s n b : Nat) : List Nat := (List.range n).filter fun a => domB E s a b
noncomputable def oversP (E : List (Nat × Nat)) (s a k b : Nat) : List Nat := oversL E s a b ++ if b < k ∧ domB E s a b = true then [a] else []
theorem oversP_zero (E : List (Nat × Nat)) (s a : Nat) : oversP E s a 0 = oversL E s a := by funext b; simp [oversP]
theorem oversL_succ (E : List (Nat × Nat)) (s a b : Nat) : oversL E s (a + 1) b = oversL E s a b ++ if domB E s a b = true then [a] else [] := by
  unfold oversL
  rw [List.range_succ, List.filter_append]
  by_cases h : domB E s a b = true <;> simp [h]
theorem oversP_full (E : List (Nat × Nat)) (s a n : Nat) (b : Nat) (hb : b < n) : oversP E s a n b = oversL E s (a + 1) b := by
  rw [oversL_succ]; unfold oversP
  by_cases h : domB E s a b = true <;> simp [h, hb]
theorem oversP_skip {E : List (Nat × Nat)} {s a k : Nat} (h : domB E s a k = false) : oversP E s a (k + 1) = oversP E s a k := by
  funext b
  unfold oversP
  by_cases e : b = k
  · subst e; simp [h]
  · have : b < k + 1 ↔ b < k := by omega
    simp only [this]
theorem oversP_take {E : List (Nat × Nat)} {s a k : Nat} (h : domB E s a k = true) : oversP E s a (k + 1) = fun b => if b = k then oversP E s a k b ++ [a] else oversP E s a k b := by
  funext b
  unfold oversP
  by_cases e : b = k
  · subst e; simp [h]
  · have : b < k + 1 ↔ b < k := by omega
    simp only [this, if_neg e]
theorem oversP_len (E : List (Nat × Nat)) (s a k b : Nat) : (oversP E s a k b).length ≤ a + 1 := by
  unfold oversP oversL
  have h := List.length_filter_le (fun a => domB E s a b) (List.range a)
  rw [List.length_range] at h
  rw [List.length_append]
  split <;> simp <;> omega
theorem over_cond {E : List (Nat × Nat)} {s a b : Nat} {r q : Bool} (hr : r = true ↔ Rch E s b) (hq : q = true ↔ Rch (lessE E a) s b) :
    (r = false → domB E s a b = false) ∧ (r = true → a = s ∨ a = b → domB E s a b = true) ∧ (r = true → a ≠ s → domB E s a b = !q) := by
  refine ⟨fun h => ?_, fun h h1 => ?_, fun h h1 => ?_⟩
  · rw [Bool.eq_false_iff]
    intro h2
    have := hr.2 (domB_iff.1 h2).1
    rw [h] at this; cases this
  · rw [domB_iff]
    rcases h1 with rfl | rfl
    · exact dom_root (hr.1 h)
    · exact dom_self (hr.1 h)
  · rw [rch_less h1] at hq
    cases q with
    | true =>
      rw [Bool.not_true, Bool.eq_false_iff]
      intro h2
      exact (domB_iff.1 h2).2 (hq.1 rfl)
    | false =>
      rw [Bool.not_false, domB_iff]
      exact ⟨hr.1 h, fun h2 => by have := hq.2 h2; cases this⟩
theorem Fam.congr {base : Nat} {w : World} {K : Nat} {F : Nat → Value} {L M : Nat → List Nat} (h : Fam base w K F L) (e : ∀ k, k < K → L k = M k) : Fam base w K F M :=
  ⟨fun k hk => by rw [← e k hk]; exact h.own k hk, h.apart, fun k hk hM => h.nil k hk (by rw [e k hk]; exact hM)⟩
structure OvSt (w0 wr : World) (tb ib jb n : Nat) (L : Nat → List Nat) (R Q : Nat → Bool) (F : Nat → Value) : Prop where
  table : wr.rowIs tb 26 n F
  rows : Fam w0.heap.size wr n F L
  all : wr.rowIs ib 4 n (fun i => .bool (R i))
  left : wr.rowIs jb 4 n (fun i => .bool (Q i))
  below : Below w0.heap.size w0 wr
  high : w0.heap.size ≤ tb
theorem rowIs_type {w : World} {b c n m : Nat} {t u : TypeId} {f g : Nat → Value} (h : w.rowIs b t n f) (h2 : w.rowIs c u m g) (ht : t ≠ u) : b ≠ c := by
  rintro rfl
  obtain ⟨c1, e1, -⟩ := h
  obtain ⟨c2, e2, -⟩ := h2
  rw [e1] at e2
  injection e2 with e2
  injection e2 with _ h4 _
  exact ht h4
theorem OvSt.own {w0 wr : World} {tb ib jb n k : Nat} {L : Nat → List Nat} {R Q : Nat → Bool} {F : Nat → Value} (h : OvSt w0 wr tb ib jb n L R Q F) (hk : k < n) : Own w0 wr 3 1 (F k) (intsN (L k)).length ((intsN (L k)).map iI) :=
  ⟨h.below, by
    have := h.rows.own k hk
    rw [intsN_len]
    have e : (intsN (L k)).map iI = (L k).map iv := by simp [intsN, iI, iv]
    rw [e]; exact this⟩
theorem OvSt.push {w0 wr w1 : World} {tb ib jb n k x g c : Nat} {L : Nat → List Nat} {R Q : Nat → Bool} {F : Nat → Value} (h : OvSt w0 wr tb ib jb n L R Q F) (hk : k < n)
    (hown : Own w0 w1 3 1 (.slice (some ⟨g, 0, none⟩) ((intsN (L k)).length + 1) c) (intsN (L k) ++ [(x : Int)]).length ((intsN (L k) ++ [(x : Int)]).map iI)) (hg : wr.grownBy w1 (F k).ownBlock) (hat : (F k).ownBlock = some g ∨ g = wr.heap.size + 1) :
    (w1.rowIs tb 26 n F) ∧ ∃ F', OvSt w0 (w1.setCell ⟨tb, k, none⟩ (.slice (some ⟨g, 0, none⟩) ((intsN (L k)).length + 1) c)) tb ib jb n (fun b => if b = k then L b ++ [x] else L b) R Q F' := by
  have hn : ∀ (q : Nat) (cur : Array Value) (t : TypeId) (fr : Nat × Nat), wr.heap[q]? = some (.cells cur t fr) → t ≠ 3 → some q ≠ (F k).ownBlock := fun q cur t fr hq ht => Ne.symm (h.rows.notBlock hq ht hk)
  have keepRow : ∀ (q : Nat) (t : TypeId) (m : Nat) (f : Nat → Value), wr.rowIs q t m f → t ≠ 3 → w1.rowIs q t m f := fun q t m f hq ht => hq.of_block (hg.block q hq.lt (by obtain ⟨cur, hc, -⟩ := hq; exact hn q _ _ _ hc ht))
  have R1 := keepRow tb _ _ _ h.table (by decide)
  refine ⟨R1, _, ⟨R1.set k _, ?_, (keepRow ib _ _ _ h.all (by decide)).setOther (rowIs_type h.all h.table (by decide)) _, (keepRow jb _ _ _ h.left (by decide)).setOther (rowIs_type h.left h.table (by decide)) _, ?_, h.high⟩⟩
  · have e : (intsN (L k) ++ [(x : Int)]).map iI = (L k).map iv ++ [iv x] := by simp [intsN, iI, iv]
    have ho := hown.own
    rw [e, List.length_append, intsN_len] at ho
    rw [intsN_len]
    have FC := h.rows.push (x := x) hk ho hg (by
      rcases hat with e | e
      · exact .inl e.symm
      · exact .inr ⟨g, rfl, by omega⟩)
    exact FC.keep (grown_setCell _ _ _ _) (fun q hq => .inr (by obtain ⟨cur, hc, -⟩ := R1; exact FC.notBlock hc (by decide) hq))
  · exact (hown.below).setCell h.high _
theorem OvSt.more {w0 wr w1 : World} {tb ib jb n : Nat} {L : Nat → List Nat} {R Q : Nat → Bool} {F : Nat → Value} (h : OvSt w0 wr tb ib jb n L R Q F) (hb : Below wr.heap.size wr w1) : OvSt w0 w1 tb ib jb n L R Q F :=
  ⟨h.table.of_block (hb.block tb h.table.lt), h.rows.below hb, h.all.of_block (hb.block ib h.all.lt), h.left.of_block (hb.block jb h.left.lt), h.below.trans (hb.mono h.below.size), h.high⟩
set_option maxHeartbeats 16000000 in
set_option maxRecDepth 100000 in
theorem overs_any (w : World) (n s : Nat) (hn : n ≤ 100000) (v : Value) (E : List (Nat × Nat)) (hlen : E.length ≤ 1000000) (hv : RE w v (E.map toE)) (hed : ∀ e ∈ E, e.1 < n ∧ e.2 < n) (hs : s < n) :
    Calls Tryd.prog 37 #[.int .i64 n, v, .int .i64 s] w fun e w' => ∃ tb, e = .returned (.slice (some ⟨tb, 0, none⟩) n n) ∧ AdjP w tb n (oversL E s n) w' := by
  have HV := Lib.hid hv
  have HED := Lib.hid hed
  have HLEN := Lib.hid hlen
  have hmk := run_make_row' 53 26 (.slice none 0 0) 24 Tryd.underlying53 info_ints rfl .i64 .i64 n (by omega) (by omega)
  clear hv hed hlen
  go_enter Tryd.func37, Tryd.ntmps37
  go_wp2_with fail
  have BT : Below w.heap.size w ((w.alloc (.cells (madeCells #[.slice none 0 0] n) 26)).alloc (.cells #[.int .i64 (s : Int)] 3)) := by
    have b1 := (Below.refl w.heap.size w).alloc (Nat.le_refl _) (.cells (madeCells #[.slice none 0 0] n) 26)
    exact b1.alloc b1.size _
  have RT : ((w.alloc (.cells (madeCells #[.slice none 0 0] n) 26)).alloc (.cells #[.int .i64 (s : Int)] 3)).rowIs w.heap.size 26 n (fun _ => .slice none 0 0) := (World.rowIs_made _ _ _ _).alloc _
  obtain ⟨tb, htb⟩ : ∃ tb, tb = w.heap.size := ⟨_, rfl⟩
  rw [← htb] at RT
  have htl : w.heap.size ≤ tb := by omega
  have HTB := Lib.hid htb
  refine (marks_any _ n (by omega) v E HLEN.out (HV.out.below BT) HED.out (w.heap.size + 1) s hs (by simp)).mono ?_
  rintro e w1 ⟨ib, R, rfl, hR, hrow, hb⟩
  have HR := Lib.hid hR
  have HB1 : Hid (Below w.heap.size w w1) := BT.trans (hb.mono BT.size)
  have HS : Hid (∃ F, OvSt w w1 tb ib ib n (oversL E s 0) R R F) := ⟨_, RT.of_block (hb.block tb RT.lt), Fam.start _ _ _, hrow, hrow, HB1.out, htl⟩
  clear hmk hR hrow hb RT BT htb
  rw [← HTB.out]
  go_wp2
  go_loopw [20] (fun v20 wr => ∃ a : Nat, a ≤ n ∧ v20 = .int .i64 a ∧ Hid (∃ F, OvSt w wr tb ib ib n (oversL E s a) R R F)) (fun v20 _ => n - (intOf v20).toNat)
  case atStart => exact ⟨0, by omega, rfl, HS⟩
  case round =>
    clear HS HB1
    obtain ⟨a, ha, rfl, HS⟩ := hrel
    by_cases hlt : a < n
    · obtain ⟨F, HS'⟩ := HS
      have HS : Hid (OvSt w wr tb ib ib n (oversL E s a) R R F) := HS'
      clear HS'
      go_wp2_with fail
      refine (without_any wr v (E.map toE) a (HV.out.below HS.out.below) (by have := HLEN.out; rwa [List.length_map])).mono ?_
      rw [lessE_map]
      rintro e w2 ⟨v2, rfl, hO⟩
      have hll := less_len E a
      have HE2 : Hid (RE w2 v2 ((lessE E a).map toE)) := RE.of_Own hO (by have := HLEN.out; rw [List.length_map]; omega)
      have HS2 : Hid (OvSt w w2 tb ib ib n (oversL E s a) R R F) := HS.out.more hO.below
      have hll2 : (lessE E a).length ≤ 1000000 := by have := HLEN.out; omega
      have HLL := Lib.hid hll2
      have HLM : Hid (∀ e ∈ lessE E a, e.1 < n ∧ e.2 < n) := fun e he => HED.out e (less_mem he)
      clear hO HS hll hll2
      go_wp2_with fail
      refine (marks_any _ n (by omega) v2 (lessE E a) HLL.out (HE2.out.below (by go_grown)) HLM.out w2.heap.size s hs (by simp)).mono ?_
      rintro e w3 ⟨jb, Q, rfl, hQ, hrow, hb⟩
      have HQ := Lib.hid hQ
      have HB23 : Hid (Below w2.heap.size w2 w3) := ((Below.refl _ _).alloc (Nat.le_refl _) _).trans (hb.mono (by simp))
      have HS3 : Hid (∃ F, OvSt w w3 tb ib jb n (oversP E s a 0) R Q F) := by
        have h := HS2.out.more HB23.out
        rw [oversP_zero]
        exact ⟨F, h.table, h.rows, h.all, hrow, h.below, h.high⟩
      clear hQ hrow hb HB23 HS2 HE2 HLL HLM
      go_wp2
      go_loopw [31] (fun v31 wr => ∃ k : Nat, k ≤ n ∧ v31 = .int .i64 k ∧ Hid (∃ F, OvSt w wr tb ib jb n (oversP E s a k) R Q F)) (fun v31 _ => n - (intOf v31).toNat)
      case atStart => exact ⟨0, by omega, rfl, HS3⟩
      case round =>
        clear HS3
        obtain ⟨k, hk, rfl, HS⟩ := hrel
        by_cases hkn : k < n
        · obtain ⟨F, HS'⟩ := HS
          have HS : Hid (OvSt w wr tb ib jb n (oversP E s a k) R Q F) := HS'
          clear HS'
          have HC := Lib.hid (over_cond (HR.out k) (HQ.out k))
          have d0 := HS.out.all.cell hkn
          have d1 := HS.out.left.cell hkn
          cases hRk : R k with
          | false =>
            rw [hRk] at d0
            have HS2 : Hid (∃ F, OvSt w wr tb ib jb n (oversP E s a (k + 1)) R Q F) := by rw [oversP_skip (HC.out.1 hRk)]; exact ⟨F, HS.out⟩
            clear hRk HS
            go_wp2
            exact ⟨⟨k + 1, by omega, by go_num, HS2⟩, by simp [intOf]; omega⟩
          | true =>
            rw [hRk] at d0
            by_cases has : a = s
            · have HT := Lib.hid (oversP_take (HC.out.2.1 hRk (.inl has)))
              have x1 : ((a : Int) == (s : Int)) = true := by simp; omega
              clear hRk has
              have d2 := HS.out.table.cell hkn
              have hlen : (intsN (oversP E s a k k)).length ≤ 1000000000000 := by rw [intsN_len]; have := oversP_len E s a k k; omega
              have how := HS.out.own hkn
              obtain ⟨ak, ck, hsh⟩ := how.shape
              rw [hsh] at d2 how
              have HSH := Lib.hid hsh
              have HOW := Lib.hid how
              clear hsh how
              go_wp2_with (at_builtin; (refine push_int rfl _ _ rfl rfl HOW.out rfl (by simp) hlen ?_)
                           intro g4 c4 w4 hO4 hg4 hat4
                           have hp := HS.out.push hkn hO4 (by rw [HSH.out]; exact hg4) (by rw [HSH.out]; exact hat4)
                           have k2 := hp.1.cell hkn
                           have k3 := hp.1.frozen k
                           have hp2 := hp.2
                           rw [← HT.out] at hp2
                           have HP := Lib.hid hp2
                           clear hO4 hg4 hat4 hp hp2)
              exact ⟨⟨k + 1, by omega, by go_num, HP⟩, by simp [intOf]; omega⟩
            · have x1 : ((a : Int) == (s : Int)) = false := by simp; omega
              by_cases hak : a = k
              · have HT := Lib.hid (oversP_take (HC.out.2.1 hRk (.inr hak)))
                have x2 : ((a : Int) == (k : Int)) = true := by simp; omega
                clear hRk hak has
                have d2 := HS.out.table.cell hkn
                have hlen : (intsN (oversP E s a k k)).length ≤ 1000000000000 := by rw [intsN_len]; have := oversP_len E s a k k; omega
                have how := HS.out.own hkn
                obtain ⟨ak, ck, hsh⟩ := how.shape
                rw [hsh] at d2 how
                have HSH := Lib.hid hsh
                have HOW := Lib.hid how
                clear hsh how
                go_wp2_with (at_builtin; (refine push_int rfl _ _ rfl rfl HOW.out rfl (by simp) hlen ?_)
                             intro g4 c4 w4 hO4 hg4 hat4
                             have hp := HS.out.push hkn hO4 (by rw [HSH.out]; exact hg4) (by rw [HSH.out]; exact hat4)
                             have k2 := hp.1.cell hkn
                             have k3 := hp.1.frozen k
                             have hp2 := hp.2
                             rw [← HT.out] at hp2
                             have HP := Lib.hid hp2
                             clear hO4 hg4 hat4 hp hp2)
                exact ⟨⟨k + 1, by omega, by go_num, HP⟩, by simp [intOf]; omega⟩
              · have x2 : ((a : Int) == (k : Int)) = false := by simp; omega
                have hdq := HC.out.2.2 hRk has
                cases hQk : Q k with
                | false =>
                  rw [hQk] at d1 hdq
                  have HT := Lib.hid (oversP_take hdq)
                  clear hRk hak has hQk hdq
                  have d2 := HS.out.table.cell hkn
                  have hlen : (intsN (oversP E s a k k)).length ≤ 1000000000000 := by rw [intsN_len]; have := oversP_len E s a k k; omega
                  have how := HS.out.own hkn
                  obtain ⟨ak, ck, hsh⟩ := how.shape
                  rw [hsh] at d2 how
                  have HSH := Lib.hid hsh
                  have HOW := Lib.hid how
                  clear hsh how
                  go_wp2_with (at_builtin; (refine push_int rfl _ _ rfl rfl HOW.out rfl (by simp) hlen ?_)
                               intro g4 c4 w4 hO4 hg4 hat4
                               have hp := HS.out.push hkn hO4 (by rw [HSH.out]; exact hg4) (by rw [HSH.out]; exact hat4)
                               have k2 := hp.1.cell hkn
                               have k3 := hp.1.frozen k
                               have hp2 := hp.2
                               rw [← HT.out] at hp2
                               have HP := Lib.hid hp2
                               clear hO4 hg4 hat4 hp hp2)
                  exact ⟨⟨k + 1, by omega, by go_num, HP⟩, by simp [intOf]; omega⟩
                | true =>
                  rw [hQk] at d1 hdq
                  have HS2 : Hid (∃ F, OvSt w wr tb ib jb n (oversP E s a (k + 1)) R Q F) := by rw [oversP_skip hdq]; exact ⟨F, HS.out⟩
                  clear hRk hak has hQk hdq HS
                  go_wp2
                  exact ⟨⟨k + 1, by omega, by go_num, HS2⟩, by simp [intOf]; omega⟩
        · obtain rfl : n = k := by omega
          have HS2 : Hid (∃ F, OvSt w wr tb ib ib n (oversL E s (a + 1)) R R F) := by
            obtain ⟨F, h⟩ := HS
            exact ⟨F, h.table, h.rows.congr (fun b hb => oversP_full E s a n b hb), h.all, h.all, h.below, h.high⟩
          clear HS
          go_wp2
          exact ⟨⟨a + 1, by omega, by go_num, HS2⟩, by simp [intOf]; omega⟩
    · obtain rfl : n = a := by omega
      go_wp2
      go_ret
      exact ⟨tb, rfl, by obtain ⟨F, h⟩ := HS; exact ⟨F, h.table, h.rows, h.below⟩⟩
end Go.Proofs.YtnmfbaahabcocaaDoor
end
