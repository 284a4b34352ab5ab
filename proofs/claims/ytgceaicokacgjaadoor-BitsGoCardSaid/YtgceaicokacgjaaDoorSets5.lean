/- The sets of package bits: Union, Meet, Less, Same. -/
import Derived.Test.YtgceaicokacgjaaDoorSets4
namespace Go.Proofs.YtgceaicokacgjaaDoor
open Go.RowKit

/-- A set's pointer, or nil: an empty one. -/
def SetP (w : World) (v : Value) (g : Nat → Bool) : Prop := (v = .pointer none ∧ g = fun _ => false) ∨ ∃ pt bt m, v = .pointer (some ⟨pt, 0, none⟩) ∧ SetAt w pt bt m g
theorem word_p {w : World} {v : Value} {g : Nat → Bool} (h : SetP w v g) (k n : Nat) (hk : k < nw n) (hn : n ≤ 1000000) :
    Calls Tryd.prog 33 #[v, .int .i64 k, .int .i64 n] w fun e w' => e = .returned (.int .u64 (wd (upto g n) k : Nat)) ∧ w = w' := by
  rcases h with ⟨rfl, rfl⟩ | ⟨pt, bt, m, rfl, hs⟩
  · have e : wd (upto (fun _ => false) n) k = wd (fun _ => false) 0 := by
      rw [wd_zero, wd_zero_of (fun t _ => by simp [upto])]
    rw [e]
    exact word_none _ _ w
  · exact word_any k n pt bt m g w hs hk hn

/-- The first k words have been gone through. -/
def uF (op : Bool → Bool → Bool) (f g : Nat → Bool) (k q : Nat) : Bool := if q < 64 * k then op (f q) (g q) else f q
theorem uF_zero (op : Bool → Bool → Bool) (f g : Nat → Bool) : uF op f g 0 = f := by funext q; simp [uF]
theorem uF_now (op : Bool → Bool → Bool) (f g : Nat → Bool) (k : Nat) : wd (uF op f g k) k = wd f k := wd_congr (fun t _ => by
  have : ¬ 64 * k + t < 64 * k := by omega
  simp [uF, this])
theorem uF_next (op : Bool → Bool → Bool) (f g : Nat → Bool) (k : Nat) : wd (uF op f g (k + 1)) k = wd (fun q => op (f q) (g q)) k := wd_congr (fun t _ => by
  have : 64 * k + t < 64 * (k + 1) := by omega
  simp [uF, this])
theorem uF_other (op : Bool → Bool → Bool) (f g : Nat → Bool) (k q : Nat) (h : q ≠ k) : wd (uF op f g (k + 1)) q = wd (uF op f g k) q := wd_congr (fun t ht => by
  have : (64 * q + t < 64 * (k + 1)) ↔ (64 * q + t < 64 * k) := by omega
  simp [uF, this])
theorem uF_top (op : Bool → Bool → Bool) (hop : op false false = false) (f g : Nat → Bool) (n : Nat) (hf : ∀ i, f i = true → i < n) (hg : ∀ i, g i = true → i < n) : uF op f g (nw n) = fun q => op (f q) (g q) := by
  funext q
  unfold uF
  by_cases h : q < 64 * nw n
  · rw [if_pos h]
  · rw [if_neg h]
    have hn : ¬ q < n := by unfold nw at h; omega
    have h1 : f q = false := by
      cases hq : f q with
      | false => rfl
      | true => exact absurd (hf _ hq) hn
    have h2 : g q = false := by
      cases hq : g q with
      | false => rfl
      | true => exact absurd (hg _ hq) hn
    rw [h1, h2, hop]
theorem or_words (f g : Nat → Bool) (k : Nat) : bits BinOp.or IntKind.u64 (wd f k : Int) (wd g k : Int) = ((wd (fun q => f q || g q) k : Nat) : Int) := by
  rw [bits_or_u64_nat _ _ (wd_lt f _) (wd_lt g k)]
  have h : wd f k ||| wd g k = wd (fun q => f q || g q) k := by
    refine wd_eq (Nat.or_lt_two_pow (n := 64) (wd_lt f _) (wd_lt g k)) (fun t ht => ?_)
    rw [Nat.testBit_or, testBit_wd, testBit_wd]
    simp [ht]
  rw [h]
theorem and_words (f g : Nat → Bool) (k : Nat) : bits BinOp.and IntKind.u64 (wd f k : Int) (wd g k : Int) = ((wd (fun q => f q && g q) k : Nat) : Int) := by
  rw [bits_and_u64_nat _ _ (wd_lt f _) (wd_lt g k)]
  have h : wd f k &&& wd g k = wd (fun q => f q && g q) k := by
    refine wd_eq (Nat.and_lt_two_pow (n := 64) _ (wd_lt g k)) (fun t ht => ?_)
    rw [Nat.testBit_and, testBit_wd, testBit_wd]
    simp [ht]
  rw [h]
theorem andNot_words (f g : Nat → Bool) (k : Nat) : bits BinOp.andNot IntKind.u64 (wd f k : Int) (wd g k : Int) = ((wd (fun q => f q && !g q) k : Nat) : Int) := by
  obtain ⟨c, h1, h2, h3⟩ := bits_andNot_u64_nat _ _ (wd_lt f k) (wd_lt g k)
  have h : c = wd (fun q => f q && !g q) k := by
    refine wd_eq h2 (fun t ht => ?_)
    rw [h3 t ht, testBit_wd, testBit_wd]
    simp [ht]
  rw [h1, h]

/-- Whether two sets part below m. -/
def chg (f h : Nat → Bool) (m : Nat) : Bool := (List.range m).any fun q => h q != f q
theorem wd_ne (f h : Nat → Bool) (k : Nat) : ((wd h k : Int) != (wd f k : Int)) = (List.range 64).any fun t => h (64 * k + t) != f (64 * k + t) := by
  rw [Bool.eq_iff_iff]
  constructor
  · intro hne
    have hne : (wd h k : Int) ≠ (wd f k : Int) := by simpa using hne
    by_cases hall : ∀ t, t < 64 → h (64 * k + t) = f (64 * k + t)
    · exact absurd (by rw [wd_congr hall]) hne
    · have : ∃ t, t < 64 ∧ h (64 * k + t) ≠ f (64 * k + t) := Classical.byContradiction fun hc => hall fun t ht => Classical.byContradiction fun hd => hc ⟨t, ht, hd⟩
      obtain ⟨t, ht, hd⟩ := this
      rw [List.any_eq_true]
      exact ⟨t, List.mem_range.2 ht, by simpa using hd⟩
  · intro hany
    obtain ⟨t, ht, hd⟩ := List.any_eq_true.1 hany
    have ht := List.mem_range.1 ht
    have hd : h (64 * k + t) ≠ f (64 * k + t) := by simpa using hd
    rw [bne_iff_ne]
    intro he
    have he : wd h k = wd f k := by omega
    have h1 := testBit_wd h k t
    have h2 := testBit_wd f k t
    rw [he, h2] at h1
    simp [ht] at h1
    exact hd h1.symm
theorem chg_word (f h : Nat → Bool) (k : Nat) : chg f h (64 * (k + 1)) = (chg f h (64 * k) || ((wd h k : Int) != (wd f k : Int))) := by
  rw [wd_ne]
  unfold chg
  rw [Nat.mul_add, Nat.mul_one, List.range_add, List.any_append, List.any_map]
  rfl
theorem chg_top (f h : Nat → Bool) (n m : Nat) (hm : n ≤ m) (hs : ∀ q, n ≤ q → h q = f q) : chg f h m = chg f h n := by
  obtain ⟨d, rfl⟩ : ∃ d, m = n + d := ⟨m - n, by omega⟩
  unfold chg
  rw [List.range_add, List.any_append, List.any_map]
  have : ((List.range d).any ((fun q => h q != f q) ∘ fun x => n + x)) = false := by
    rw [List.any_eq_false]; intro x _; simp [hs (n + x) (by omega)]
  rw [this, Bool.or_false]

set_option maxHeartbeats 1000000 in
theorem union_core (p b n : Nat) (f g : Nat → Bool) (tv : Value) (w : World) (hs : SetAt w p b n f) (hg : ∀ i, g i = true → i < n)
    (hW : ∀ k W, k < nw n → SetAt W p b n (uF or f g k) → w.grownBy W (some b) → Calls Tryd.prog 33 #[tv, .int .i64 k, .int .i64 n] W fun e w' => e = .returned (.int .u64 (wd g k : Nat)) ∧ W = w') :
    Calls Tryd.prog 13 #[.pointer (some ⟨p, 0, none⟩), tv] w fun e w' => e = .returned (.bool (chg f (fun q => or (f q) (g q)) n)) ∧ SetAt w' p b n (fun q => or (f q) (g q)) ∧ w.grownBy w' (some b) := by
  have c1 := hs.c1
  have HS := Lib.hid hs
  have HW := Lib.hid hW
  have hsm := hs.small
  have hnw := nw_le hs.small
  have htop : chg f (fun q => or (f q) (g q)) (64 * nw n) = chg f (fun q => or (f q) (g q)) n := chg_top _ _ _ _ (by unfold nw; omega) (fun q hq => by
    have h1 : f q = false := by
      cases h : f q with
      | false => rfl
      | true => have := hs.low _ h; omega
    have h2 : g q = false := by
      cases h : g q with
      | false => rfl
      | true => have := hg _ h; omega
    simp only [h1, h2]; rfl)
  have HTOP := Lib.hid htop
  have HFIN := Lib.hid (uF_top or rfl f g n hs.low hg)
  have HG := Lib.hid hg
  clear hs hW hg htop
  go_enter Tryd.func13, Tryd.ntmps13
  go_wp2
  go_loopw [4, 12] (fun v4 v12 wr => ∃ k : Nat, k ≤ nw n ∧ v12 = .int .i64 k ∧ v4 = .bool (chg f (fun q => or (f q) (g q)) (64 * k)) ∧ Hid (SetAt wr p b n (uF or f g k)) ∧ Hid (w.grownBy wr (some b))) (fun _ v12 _ => nw n - (intOf v12).toNat)
  case atStart => exact ⟨0, by omega, rfl, rfl, (by show SetAt w p b n (uF or f g 0); rw [uF_zero]; exact HS.out), grown_refl _ _⟩
  case round =>
    obtain ⟨k, hk, rfl, rfl, HSR, HGR⟩ := hrel
    by_cases hlt : k < nw n
    · have d0 := HSR.out.c0
      have d1 := HSR.out.c1
      have d2 := HSR.out.cell hlt
      have d3 := HSR.out.free k
      have HBE : Hid (bits BinOp.or IntKind.u64 (wd (uF or f g k) k : Int) (wd g k : Int) = ((wd (uF or f g (k + 1)) k : Nat) : Int)) := by
        show bits BinOp.or IntKind.u64 (wd (uF or f g k) k : Int) (wd g k : Int) = _
        rw [uF_now, uF_next]; exact or_words f g k
      have HCH : Hid (chg f (fun q => or (f q) (g q)) (64 * (k + 1)) = (chg f (fun q => or (f q) (g q)) (64 * k) || ((wd (uF or f g (k + 1)) k : Int) != (wd (uF or f g k) k : Int)))) := by
        show _ = _
        rw [chg_word, uF_now, uF_next]
      have HNS : Hid (SetAt (wr.drew.setCell ⟨b, k, none⟩ (.int .u64 (wd (uF or f g (k + 1)) k))) p b n (uF or f g (k + 1))) :=
        (HSR.out.drew).set k _ (fun i hi => by
          unfold uF at hi
          by_cases h1 : f i = true
          · exact HS.out.low _ h1
          · by_cases h2 : g i = true
            · exact HG.out _ h2
            · have h1 : f i = false := by simpa using h1
              have h2 : g i = false := by simpa using h2
              rw [h1, h2] at hi
              split at hi <;> exact absurd hi (by decide)) (fun q hq => uF_other _ f g k q hq)
      have HNG : Hid (w.grownBy (wr.drew.setCell ⟨b, k, none⟩ (.int .u64 (wd (uF or f g (k + 1)) k))) (some b)) := grown_set (grown_drew HGR.out) _ _
      have HCALL : Hid (Calls Tryd.prog 33 #[tv, .int .i64 k, .int .i64 n] wr.drew fun e w' => e = .returned (.int .u64 (wd g k : Nat)) ∧ w' = wr.drew) :=
        (HW.out k _ hlt HSR.out.drew (grown_drew HGR.out)).mono fun _ _ h => ⟨h.1, h.2.symm⟩
      generalize wd (uF or f g (k + 1)) k = y at *
      generalize wd (uF or f g k) k = x at *
      generalize wd g k = z at *
      generalize chg f (fun q => or (f q) (g q)) (64 * k) = c0 at *
      have hbe := HBE.out
      have hpb : ¬ p = b := HSR.out.ne
      clear c1
      go_wp2
      go_still_tail 16, (by kernel_rfl)
      still_call HCALL.out
      repeat still_step
      refine wpStill_nil ?_
      cases c0 with
      | true =>
        go_wp2
        refine ⟨⟨k + 1, by omega, by go_num, ?_, HNS, HNG⟩, by simp [intOf]; omega⟩
        rw [HCH.out]; rfl
      | false =>
        go_wp2
        refine ⟨⟨k + 1, by omega, by go_num, ?_, HNS, HNG⟩, by simp [intOf]; omega⟩
        rw [HCH.out]; rfl
    · obtain rfl : k = nw n := by omega
      go_wp2
      go_ret
      have h := HSR.out
      rw [HFIN.out] at h
      exact ⟨by rw [← HTOP.out]; rfl, h, HGR.out⟩
set_option maxHeartbeats 1000000 in
theorem meet_core (p b n : Nat) (f g : Nat → Bool) (tv : Value) (w : World) (hs : SetAt w p b n f) (hg : ∀ i, g i = true → i < n)
    (hW : ∀ k W, k < nw n → SetAt W p b n (uF and f g k) → w.grownBy W (some b) → Calls Tryd.prog 33 #[tv, .int .i64 k, .int .i64 n] W fun e w' => e = .returned (.int .u64 (wd g k : Nat)) ∧ W = w') :
    Calls Tryd.prog 14 #[.pointer (some ⟨p, 0, none⟩), tv] w fun e w' => e = .returned (.bool (chg f (fun q => and (f q) (g q)) n)) ∧ SetAt w' p b n (fun q => and (f q) (g q)) ∧ w.grownBy w' (some b) := by
  have c1 := hs.c1
  have HS := Lib.hid hs
  have HW := Lib.hid hW
  have hsm := hs.small
  have hnw := nw_le hs.small
  have htop : chg f (fun q => and (f q) (g q)) (64 * nw n) = chg f (fun q => and (f q) (g q)) n := chg_top _ _ _ _ (by unfold nw; omega) (fun q hq => by
    have h1 : f q = false := by
      cases h : f q with
      | false => rfl
      | true => have := hs.low _ h; omega
    have h2 : g q = false := by
      cases h : g q with
      | false => rfl
      | true => have := hg _ h; omega
    simp only [h1, h2]; rfl)
  have HTOP := Lib.hid htop
  have HFIN := Lib.hid (uF_top and rfl f g n hs.low hg)
  have HG := Lib.hid hg
  clear hs hW hg htop
  go_enter Tryd.func14, Tryd.ntmps14
  go_wp2
  go_loopw [4, 12] (fun v4 v12 wr => ∃ k : Nat, k ≤ nw n ∧ v12 = .int .i64 k ∧ v4 = .bool (chg f (fun q => and (f q) (g q)) (64 * k)) ∧ Hid (SetAt wr p b n (uF and f g k)) ∧ Hid (w.grownBy wr (some b))) (fun _ v12 _ => nw n - (intOf v12).toNat)
  case atStart => exact ⟨0, by omega, rfl, rfl, (by show SetAt w p b n (uF and f g 0); rw [uF_zero]; exact HS.out), grown_refl _ _⟩
  case round =>
    obtain ⟨k, hk, rfl, rfl, HSR, HGR⟩ := hrel
    by_cases hlt : k < nw n
    · have d0 := HSR.out.c0
      have d1 := HSR.out.c1
      have d2 := HSR.out.cell hlt
      have d3 := HSR.out.free k
      have HBE : Hid (bits BinOp.and IntKind.u64 (wd (uF and f g k) k : Int) (wd g k : Int) = ((wd (uF and f g (k + 1)) k : Nat) : Int)) := by
        show bits BinOp.and IntKind.u64 (wd (uF and f g k) k : Int) (wd g k : Int) = _
        rw [uF_now, uF_next]; exact and_words f g k
      have HCH : Hid (chg f (fun q => and (f q) (g q)) (64 * (k + 1)) = (chg f (fun q => and (f q) (g q)) (64 * k) || ((wd (uF and f g (k + 1)) k : Int) != (wd (uF and f g k) k : Int)))) := by
        show _ = _
        rw [chg_word, uF_now, uF_next]
      have HNS : Hid (SetAt (wr.drew.setCell ⟨b, k, none⟩ (.int .u64 (wd (uF and f g (k + 1)) k))) p b n (uF and f g (k + 1))) :=
        (HSR.out.drew).set k _ (fun i hi => by
          unfold uF at hi
          by_cases h1 : f i = true
          · exact HS.out.low _ h1
          · by_cases h2 : g i = true
            · exact HG.out _ h2
            · have h1 : f i = false := by simpa using h1
              have h2 : g i = false := by simpa using h2
              rw [h1, h2] at hi
              split at hi <;> exact absurd hi (by decide)) (fun q hq => uF_other _ f g k q hq)
      have HNG : Hid (w.grownBy (wr.drew.setCell ⟨b, k, none⟩ (.int .u64 (wd (uF and f g (k + 1)) k))) (some b)) := grown_set (grown_drew HGR.out) _ _
      have HCALL : Hid (Calls Tryd.prog 33 #[tv, .int .i64 k, .int .i64 n] wr.drew fun e w' => e = .returned (.int .u64 (wd g k : Nat)) ∧ w' = wr.drew) :=
        (HW.out k _ hlt HSR.out.drew (grown_drew HGR.out)).mono fun _ _ h => ⟨h.1, h.2.symm⟩
      generalize wd (uF and f g (k + 1)) k = y at *
      generalize wd (uF and f g k) k = x at *
      generalize wd g k = z at *
      generalize chg f (fun q => and (f q) (g q)) (64 * k) = c0 at *
      have hbe := HBE.out
      have hpb : ¬ p = b := HSR.out.ne
      clear c1
      go_wp2
      go_still_tail 16, (by kernel_rfl)
      still_call HCALL.out
      repeat still_step
      refine wpStill_nil ?_
      cases c0 with
      | true =>
        go_wp2
        refine ⟨⟨k + 1, by omega, by go_num, ?_, HNS, HNG⟩, by simp [intOf]; omega⟩
        rw [HCH.out]; rfl
      | false =>
        go_wp2
        refine ⟨⟨k + 1, by omega, by go_num, ?_, HNS, HNG⟩, by simp [intOf]; omega⟩
        rw [HCH.out]; rfl
    · obtain rfl : k = nw n := by omega
      go_wp2
      go_ret
      have h := HSR.out
      rw [HFIN.out] at h
      exact ⟨by rw [← HTOP.out]; rfl, h, HGR.out⟩

theorem uF_self (op : Bool → Bool → Bool) (hop : ∀ b, op b b = b) (f g : Nat → Bool) (k : Nat) (h : ∀ q, g q = f q) : uF op f g k = f := by
  funext q; unfold uF; rw [h q, hop]; simp
/-- With another set, or nil. -/
theorem union_any (p b n : Nat) (f g : Nat → Bool) (tv : Value) (w : World) (hs : SetAt w p b n f) (ht : SetP w tv g) (hne : ∀ pt bt m, tv = .pointer (some ⟨pt, 0, none⟩) → SetAt w pt bt m g → bt ≠ b) :
    Calls Tryd.prog 13 #[.pointer (some ⟨p, 0, none⟩), tv] w fun e w' => e = .returned (.bool (chg f (fun q => or (f q) (upto g n q)) n)) ∧ SetAt w' p b n (fun q => or (f q) (upto g n q)) ∧ w.grownBy w' (some b) := by
  refine union_core p b n f (upto g n) tv w hs (fun i hi => upto_low g n i hi) (fun k W hk hW hg => ?_)
  have ht' : SetP W tv g := by
    rcases ht with h | ⟨pt, bt, m, rfl, h⟩
    · exact .inl h
    · refine .inr ⟨pt, bt, m, rfl, h.keep (hg.block pt h.lt.1 ?_) (hg.block bt h.lt.2 ?_)⟩
      · intro e
        have e : pt = b := Option.some.inj e
        subst e
        have h1 : w.cell? ⟨pt, 1, none⟩ = some (.slice (some ⟨bt, 0, none⟩) (nw m) (nw m)) := h.c1
        have h2 : w.cell? ⟨pt, 1, none⟩ = (wordsArr f (nw n))[1]? := by simp [World.cell?, hs.row]
        rw [h1] at h2
        by_cases hk : 1 < nw n
        · rw [wordsArr_get f _ _ hk] at h2; cases h2
        · rw [Array.getElem?_eq_none (by rw [wordsArr_size]; omega)] at h2; cases h2
      · intro e
        exact hne pt bt m rfl h (Option.some.inj e)
  exact word_p ht' k n hk hs.small
/-- With itself. -/
theorem union_self (p b n : Nat) (f : Nat → Bool) (w : World) (hs : SetAt w p b n f) :
    Calls Tryd.prog 13 #[.pointer (some ⟨p, 0, none⟩), .pointer (some ⟨p, 0, none⟩)] w fun e w' => e = .returned (.bool false) ∧ SetAt w' p b n f ∧ w.grownBy w' (some b) := by
  have e0 : (fun q => or (f q) (f q)) = f := by funext q; cases f q <;> rfl
  refine (union_core p b n f f _ w hs (fun i hi => hs.low i hi) (fun k W hk hW hg => ?_)).mono ?_
  · rw [uF_self or (fun b => by cases b <;> rfl) f f k (fun _ => rfl)] at hW
    have h := word_any k n p b n f W hW hk hs.small
    have e : upto f n = f := by
      funext q
      unfold upto
      cases hq : f q with
      | false => rfl
      | true => simp [hs.low _ hq]
    rw [e] at h
    exact h
  · rintro e w' ⟨rfl, h1, h2⟩
    rw [e0] at h1
    refine ⟨?_, h1, h2⟩
    rw [e0]
    simp [chg]
/-- With another set, or nil. -/
theorem meet_any (p b n : Nat) (f g : Nat → Bool) (tv : Value) (w : World) (hs : SetAt w p b n f) (ht : SetP w tv g) (hne : ∀ pt bt m, tv = .pointer (some ⟨pt, 0, none⟩) → SetAt w pt bt m g → bt ≠ b) :
    Calls Tryd.prog 14 #[.pointer (some ⟨p, 0, none⟩), tv] w fun e w' => e = .returned (.bool (chg f (fun q => and (f q) (upto g n q)) n)) ∧ SetAt w' p b n (fun q => and (f q) (upto g n q)) ∧ w.grownBy w' (some b) := by
  refine meet_core p b n f (upto g n) tv w hs (fun i hi => upto_low g n i hi) (fun k W hk hW hg => ?_)
  have ht' : SetP W tv g := by
    rcases ht with h | ⟨pt, bt, m, rfl, h⟩
    · exact .inl h
    · refine .inr ⟨pt, bt, m, rfl, h.keep (hg.block pt h.lt.1 ?_) (hg.block bt h.lt.2 ?_)⟩
      · intro e
        have e : pt = b := Option.some.inj e
        subst e
        have h1 : w.cell? ⟨pt, 1, none⟩ = some (.slice (some ⟨bt, 0, none⟩) (nw m) (nw m)) := h.c1
        have h2 : w.cell? ⟨pt, 1, none⟩ = (wordsArr f (nw n))[1]? := by simp [World.cell?, hs.row]
        rw [h1] at h2
        by_cases hk : 1 < nw n
        · rw [wordsArr_get f _ _ hk] at h2; cases h2
        · rw [Array.getElem?_eq_none (by rw [wordsArr_size]; omega)] at h2; cases h2
      · intro e
        exact hne pt bt m rfl h (Option.some.inj e)
  exact word_p ht' k n hk hs.small
/-- With itself. -/
theorem meet_self (p b n : Nat) (f : Nat → Bool) (w : World) (hs : SetAt w p b n f) :
    Calls Tryd.prog 14 #[.pointer (some ⟨p, 0, none⟩), .pointer (some ⟨p, 0, none⟩)] w fun e w' => e = .returned (.bool false) ∧ SetAt w' p b n f ∧ w.grownBy w' (some b) := by
  have e0 : (fun q => and (f q) (f q)) = f := by funext q; cases f q <;> rfl
  refine (meet_core p b n f f _ w hs (fun i hi => hs.low i hi) (fun k W hk hW hg => ?_)).mono ?_
  · rw [uF_self and (fun b => by cases b <;> rfl) f f k (fun _ => rfl)] at hW
    have h := word_any k n p b n f W hW hk hs.small
    have e : upto f n = f := by
      funext q
      unfold upto
      cases hq : f q with
      | false => rfl
      | true => simp [hs.low _ hq]
    rw [e] at h
    exact h
  · rintro e w' ⟨rfl, h1, h2⟩
    rw [e0] at h1
    refine ⟨?_, h1, h2⟩
    rw [e0]
    simp [chg]

/-! ### Less, Same -/
/-- Whether all of a set's numbers below n stand in another one. -/
def subB (f g : Nat → Bool) (n : Nat) : Bool := (List.range n).all fun q => !f q || g q
theorem sub_word (f g : Nat → Bool) (k : Nat) : subB f g (64 * (k + 1)) = (subB f g (64 * k) && !((wd (fun q => f q && !g q) k : Int) != 0)) := by
  have h := wd_ne (fun _ => false) (fun q => f q && !g q) k
  have e : ((0 : Nat) : Int) = 0 := rfl
  rw [wd_zero, e] at h
  rw [h]
  unfold subB
  rw [Nat.mul_add, Nat.mul_one, List.range_add, List.all_append, List.all_map]
  have e2 : (List.range 64).all ((fun q => !f q || g q) ∘ fun x => 64 * k + x) = !(List.range 64).any (fun t => (f (64 * k + t) && !g (64 * k + t)) != false) := by
    rw [List.all_eq_not_any_not]
    have e3 : (fun x => !((fun q => !f q || g q) ∘ fun x => 64 * k + x) x) = (fun t => (f (64 * k + t) && !g (64 * k + t)) != false) := by
      funext t
      simp only [Function.comp]
      cases f (64 * k + t) <;> cases g (64 * k + t) <;> rfl
    rw [e3]
  rw [e2]
theorem sub_top (f g : Nat → Bool) (n m : Nat) (hm : n ≤ m) (hs : ∀ q, f q = true → q < n) : subB f g m = subB f g n := by
  obtain ⟨d, rfl⟩ : ∃ d, m = n + d := ⟨m - n, by omega⟩
  unfold subB
  rw [List.range_add, List.all_append, List.all_map]
  have : ((List.range d).all ((fun q => !f q || g q) ∘ fun x => n + x)) = true := by
    rw [List.all_eq_true]; intro x _
    simp only [Function.comp]
    cases hq : f (n + x) with
    | false => rfl
    | true => have := hs _ hq; omega
  rw [this, Bool.and_true]
theorem sub_upto (f g : Nat → Bool) (n : Nat) : subB f (upto g n) n = subB f g n := by
  unfold subB
  rw [Bool.eq_iff_iff, List.all_eq_true, List.all_eq_true]
  constructor <;>
  · intro h q hq
    have := h q hq
    have hlt := List.mem_range.1 hq
    simpa [upto, hlt] using this

theorem less_any (p b n : Nat) (f g : Nat → Bool) (tv : Value) (w : World) (hs : SetAt w p b n f) (ht : SetP w tv g) :
    Calls Tryd.prog 15 #[.pointer (some ⟨p, 0, none⟩), tv] w fun e w' => e = .returned (.bool (subB f g n)) ∧ w = w' := by
  have c0 := hs.c0
  have c1 := hs.c1
  have HS := Lib.hid hs
  have HT := Lib.hid ht
  have hsm := hs.small
  have hnw := nw_le hs.small
  have htop : subB f (upto g n) (64 * nw n) = subB f g n := by
    rw [sub_top f _ n _ (by unfold nw; omega) hs.low, sub_upto]
  have HTOP := Lib.hid htop
  clear hs ht htop
  go_enter Tryd.func15, Tryd.ntmps15
  go_wp2
  go_loop [12] (fun v12 => ∃ k : Nat, k ≤ nw n ∧ v12 = .int .i64 k ∧ Hid (subB f (upto g n) (64 * k) = true)) (fun v12 => nw n - (intOf v12).toNat)
  case atStart => exact ⟨0, by omega, rfl, rfl⟩
  case round =>
    obtain ⟨k, hk, rfl, HQ⟩ := hrel
    by_cases hlt : k < nw n
    · have d2 := HS.out.cell hlt
      have hbe := andNot_words f (upto g n) k
      have HSW := Lib.hid (sub_word f (upto g n) k)
      have HCALL := Lib.hid (word_p HT.out k n hlt hsm)
      generalize wd (upto g n) k = z at *
      generalize wd f k = x at *
      generalize wd (fun q => f q && !upto g n q) k = y at *
      by_cases hy : y = 0
      · subst hy
        have HN : Hid (subB f (upto g n) (64 * (k + 1)) = true) := by
          show _ = true
          rw [HSW.out, HQ.out]; rfl
        go_wp2_with (go_at_call 33; refine (HCALL.out).mono ?_; rintro e w' ⟨rfl, rfl⟩)
        go_round
        case rel => exact ⟨k + 1, by omega, by go_num, HN⟩
        case measure => simp [intOf]; omega
      · have hy1 : ((y : Int) != 0) = true := by rw [bne_iff_ne]; omega
        have HN : Hid (subB f g n = false) := by
          show subB f g n = false
          rw [← HTOP.out, Bool.eq_false_iff]
          intro hall
          have h1 : subB f (upto g n) (64 * (k + 1)) = true := by
            unfold subB at hall ⊢
            rw [List.all_eq_true] at hall ⊢
            intro q hq
            exact hall q (List.mem_range.2 (by have := List.mem_range.1 hq; omega))
          rw [HSW.out, HQ.out, hy1] at h1
          cases h1
        clear hy
        go_wp2_with (go_at_call 33; refine (HCALL.out).mono ?_; rintro e w' ⟨rfl, rfl⟩)
        go_ret
        exact ⟨by rw [HN.out]; rfl, rfl⟩
    · obtain rfl : k = nw n := by omega
      go_wp2
      go_ret
      exact ⟨by rw [← HTOP.out, HQ.out]; rfl, rfl⟩

/-- What Same answers. -/
theorem same_nil (p b n : Nat) (f : Nat → Bool) (w : World) (hs : SetAt w p b n f) :
    Calls Tryd.prog 26 #[.pointer (some ⟨p, 0, none⟩), .pointer none] w fun e w' => e = .returned (.bool (decide ((elems f n).length = 0))) ∧ w = w' := by
  have HS := Lib.hid hs
  clear hs
  go_enter Tryd.func26, Tryd.ntmps26
  go_wp2_with fail
  refine (len_any _ _ _ _ _ HS.out).mono ?_
  rintro e w' ⟨rfl, rfl⟩
  go_wp2
  go_ret
  refine ⟨?_, rfl⟩
  show Ending.returned (Value.bool _) = _
  congr 2
  rw [Bool.eq_iff_iff]; simp
theorem same_any (p b n pt bt m : Nat) (f g : Nat → Bool) (w : World) (hs : SetAt w p b n f) (ht : SetAt w pt bt m g) :
    Calls Tryd.prog 26 #[.pointer (some ⟨p, 0, none⟩), .pointer (some ⟨pt, 0, none⟩)] w fun e w' => e = .returned (.bool (subB f g n && subB g f m)) ∧ w = w' := by
  have HS := Lib.hid hs
  have HT := Lib.hid ht
  clear hs ht
  go_enter Tryd.func26, Tryd.ntmps26
  go_wp2_with fail
  refine (less_any _ _ _ _ _ _ _ HS.out (.inr ⟨_, _, _, rfl, HT.out⟩)).mono ?_
  rintro e w' ⟨rfl, rfl⟩
  cases h1 : subB f g n with
  | false =>
    go_wp2
    go_ret
    exact ⟨by simp [h1], rfl⟩
  | true =>
    go_wp2_with fail
    refine (less_any _ _ _ _ _ _ _ HT.out (.inr ⟨_, _, _, rfl, HS.out⟩)).mono ?_
    rintro e w' ⟨rfl, rfl⟩
    go_wp2
    go_ret
    exact ⟨by simp [h1], rfl⟩
end Go.Proofs.YtgceaicokacgjaaDoor
