/- BitsLattice: the walk through the law, from the sets' contracts. -/
import Derived.Test.YtgceaicokacgjaaDoorLives
namespace Go.Proofs.YtgceaicokacgjaaDoor
open Go.RowKit

theorem apart_new {w : World} {p b n : Nat} {f : Nat → Bool} (h : SetAt w p b n f) {b' : Nat} (hb : w.heap.size ≤ b') : b ≠ b' := by have := h.lt.2; omega

/-! ### The plain law -/
section
variable {f g h : Nat → Bool} {n : Nat}
theorem subB_iff : subB f g n = true ↔ ∀ q, q < n → f q = true → g q = true := by
  unfold subB
  rw [List.all_eq_true]
  constructor
  · intro h q hq hf
    have := h q (List.mem_range.2 hq)
    rw [hf] at this; simpa using this
  · intro h q hq
    have := h q (List.mem_range.1 hq)
    cases hf : f q with
    | false => rfl
    | true => simp [this hf]
theorem upto_self (hg : ∀ i, g i = true → i < n) : upto g n = g := by
  funext q
  unfold upto
  cases hq : g q with
  | false => rfl
  | true => simp [hg _ hq]
theorem chg_same (hs : ∀ q, h q = f q) (n : Nat) : chg f h n = false := by
  unfold chg
  rw [List.any_eq_false]; intro x _; simp [hs x]
theorem count_both (f g : Nat → Bool) : ∀ n, (elems (fun q => or (f q) (g q)) n).length + (elems (fun q => and (f q) (g q)) n).length = (elems f n).length + (elems g n).length
  | 0 => rfl
  | n + 1 => by
    have ih := count_both f g n
    unfold elems at ih ⊢
    simp only [List.range_succ, List.filter_append, List.length_append, List.filter_cons, List.filter_nil]
    cases f n <;> cases g n <;> simp <;> omega
end

theorem SetAt.same_row {w : World} {p b n b' m : Nat} {f g : Nat → Bool} (h : SetAt w p b n f) (k : SetAt w p b' m g) : b' = b := by
  have h1 := h.c1
  rw [k.c1] at h1
  simp only [Option.some.injEq, Value.slice.injEq, Addr.mk.injEq] at h1
  exact h1.1.1
theorem diff_row {w : World} {pt bt n b : Nat} {f g : Nat → Bool} (hs : SetAt w pt bt n f) (hne : bt ≠ b) : ∀ pt' bt' m, Value.pointer (some ⟨pt, 0, none⟩) = .pointer (some ⟨pt', 0, none⟩) → SetAt w pt' bt' m g → bt' ≠ b := by
  intro pt' bt' m he h
  simp only [Value.pointer.injEq, Option.some.injEq, Addr.mk.injEq] at he
  obtain ⟨rfl, -⟩ := he
  rw [hs.same_row h]; exact hne
theorem union_sub {p b n pt bt m : Nat} {f g : Nat → Bool} {w : World} (hs : SetAt w p b n f) (ht : SetAt w pt bt m g) (hne : bt ≠ b) (hsub : ∀ q, g q = true → f q = true) :
    Calls Tryd.prog 13 #[.pointer (some ⟨p, 0, none⟩), .pointer (some ⟨pt, 0, none⟩)] w fun e w' => e = .returned (.bool false) ∧ SetAt w' p b n f ∧ w.grownBy w' (some b) := by
  have e0 : (fun q => or (f q) (upto g n q)) = f := by
    funext q
    unfold upto
    cases hg : g q with
    | false => simp
    | true => simp [hsub q hg]
  refine (union_any p b n f g _ w hs (.inr ⟨_, _, _, rfl, ht⟩) (diff_row ht hne)).mono ?_
  rintro e w' ⟨rfl, h1, h2⟩
  rw [e0] at h1
  refine ⟨?_, h1, h2⟩
  rw [e0, chg_same (fun _ => rfl)]
theorem meet_sub {p b n pt bt m : Nat} {f g : Nat → Bool} {w : World} (hs : SetAt w p b n f) (ht : SetAt w pt bt m g) (hne : bt ≠ b) (hsub : ∀ q, f q = true → g q = true) :
    Calls Tryd.prog 14 #[.pointer (some ⟨p, 0, none⟩), .pointer (some ⟨pt, 0, none⟩)] w fun e w' => e = .returned (.bool false) ∧ SetAt w' p b n f ∧ w.grownBy w' (some b) := by
  have e0 : (fun q => and (f q) (upto g n q)) = f := by
    funext q
    unfold upto
    cases hf : f q with
    | false => simp
    | true => simp [hsub q hf, hs.low q hf]
  refine (meet_any p b n f g _ w hs (.inr ⟨_, _, _, rfl, ht⟩) (diff_row ht hne)).mono ?_
  rintro e w' ⟨rfl, h1, h2⟩
  rw [e0] at h1
  refine ⟨?_, h1, h2⟩
  rw [e0, chg_same (fun _ => rfl)]
theorem less_sets {p b n pt bt m : Nat} {f g : Nat → Bool} {w : World} (hs : SetAt w p b n f) (ht : SetAt w pt bt m g) (v : Bool) (hv : subB f g n = v) :
    Calls Tryd.prog 15 #[.pointer (some ⟨p, 0, none⟩), .pointer (some ⟨pt, 0, none⟩)] w fun e w' => e = .returned (.bool v) ∧ w = w' := by
  rw [← hv]; exact less_any p b n f g _ w hs (.inr ⟨_, _, _, rfl, ht⟩)

set_option maxHeartbeats 4000000 in
theorem lattice_walk (w : World) (va vb vc : Value) (a b c : List Int) (hT : TabIn w) (ha : RSl 1 RInt w (· < w.heap.size) va a) (hb : RSl 1 RInt w (· < w.heap.size) vb b) (hc : RSl 1 RInt w (· < w.heap.size) vc c) :
    Calls Tryd.prog 4 #[va, vb, vc] w fun e w' => e = .returned (.bool true) ∧ Below w.heap.size w w' := by
  have HA := Lib.hid ha
  have HB := Lib.hid hb
  have HC := Lib.hid hc
  have HT := Lib.hid hT
  obtain ⟨aa, na, ca, rfl, hna, hca, hma, -⟩ := ha
  obtain ⟨ab, nb, cb, rfl, hnb, hcb, hmb, -⟩ := hb
  obtain ⟨ac, nc, cc, rfl, hnc, hcc, hmc, -⟩ := hc
  unfold maxS at hma hmb hmc
  clear hT hna hnb hnc
  go_enter Tryd.func4, Tryd.ntmps4
  go_wp2_with fail
  refine (live_any _ HT.out).mono ?_
  rintro e w0 ⟨rfl, hb0⟩
  have B0 := Lib.hid hb0
  clear hb0
  by_cases hbig : 300 < na ∨ 300 < nb ∨ 300 < nc
  · by_cases h1 : 300 < na
    · go_wp2
      go_ret
      exact ⟨rfl, B0.out⟩
    · by_cases h2 : 300 < nb
      · go_wp2
        go_ret
        exact ⟨rfl, B0.out⟩
      · have h3 : 300 < nc := by omega
        go_wp2
        go_ret
        exact ⟨rfl, B0.out⟩
  · have h1 : na ≤ 300 := by omega
    have h2 : nb ≤ 300 := by omega
    have h3 : nc ≤ 300 := by omega
    clear hbig
    go_wp2_with fail
    refine (set_any 300 (by decide) _ a _ (HA.out.mono (fun k hk => Nat.lt_of_lt_of_le hk B0.out.size) (fun k hk => B0.out.block k hk) (fun _ _ _ h => h))).mono ?_
    rintro e w1 ⟨px, bx, rfl, hs1, hp1, hq1, hb1⟩
    have X1 := Lib.hid hs1
    have B1 : Hid (Below w.heap.size w w1) := afterCall B0.out hb1
    clear hs1 hb1
    go_wp2_with fail
    refine (set_any 300 (by decide) _ b _ (HB.out.mono (fun k hk => Nat.lt_of_lt_of_le hk B1.out.size) (fun k hk => B1.out.block k hk) (fun _ _ _ h => h))).mono ?_
    rintro e w2 ⟨py, by', rfl, hs2, hp2, hq2, hb2⟩
    have Y2 := Lib.hid hs2
    have X2 : Hid _ := X1.out.below hb2
    have B2 : Hid (Below w.heap.size w w2) := afterCall B1.out hb2
    have Dxy := Lib.hid (apart_new X1.out hq2)
    clear hs2 hb2
    go_wp2_with fail
    refine (set_any 300 (by decide) _ c _ (HC.out.mono (fun k hk => Nat.lt_of_lt_of_le hk B2.out.size) (fun k hk => B2.out.block k hk) (fun _ _ _ h => h))).mono ?_
    rintro e w3 ⟨pz, bz, rfl, hs3, hp3, hq3, hb3⟩
    have Z3 := Lib.hid hs3
    have X3 : Hid _ := X2.out.below hb3
    have Y3 : Hid _ := Y2.out.below hb3
    have B3 : Hid (Below w.heap.size w w3) := afterCall B2.out hb3
    have Dxz := Lib.hid (apart_new X2.out hq3)
    have Dyz := Lib.hid (apart_new Y2.out hq3)
    clear hs3 hb3
    generalize fromL 300 a = fx at *
    generalize fromL 300 b = fy at *
    generalize fromL 300 c = fz at *
    go_wp2_with fail
    refine (clone_any _ _ _ _ _ X3.out).mono ?_
    rintro e w4 ⟨pu, bu, rfl, hs4, hp4, hq4, hb4⟩
    have U4 := Lib.hid hs4
    have X4 : Hid _ := X3.out.below hb4
    have Y4 : Hid _ := Y3.out.below hb4
    have Z4 : Hid _ := Z3.out.below hb4
    have B4 : Hid (Below w.heap.size w w4) := afterCall B3.out hb4
    have Dxu := Lib.hid (apart_new X3.out hq4)
    have Dyu := Lib.hid (apart_new Y3.out hq4)
    have Dzu := Lib.hid (apart_new Z3.out hq4)
    have Lu : w.heap.size ≤ bu := Nat.le_trans B3.out.size hq4
    clear hs4 hb4
    go_wp2_with fail
    refine (clone_any _ _ _ _ _ X4.out).mono ?_
    rintro e w5 ⟨pm, bm, rfl, hs5, hp5, hq5, hb5⟩
    have M5 := Lib.hid hs5
    have X5 : Hid _ := X4.out.below hb5
    have Y5 : Hid _ := Y4.out.below hb5
    have Z5 : Hid _ := Z4.out.below hb5
    have U5 : Hid _ := U4.out.below hb5
    have B5 : Hid (Below w.heap.size w w5) := afterCall B4.out hb5
    have Dxm := Lib.hid (apart_new X4.out hq5)
    have Dym := Lib.hid (apart_new Y4.out hq5)
    have Dzm := Lib.hid (apart_new Z4.out hq5)
    have Dum := Lib.hid (apart_new U4.out hq5)
    have Lm : w.heap.size ≤ bm := Nat.le_trans B4.out.size hq5
    clear hs5 hb5 hp1 hp2 hp3 hp4 hp5 hq1 hq2 hq3 hq4 hq5
    have lx := Lib.hid X5.out.low
    have ly := Lib.hid Y5.out.low
    go_wp2_with fail
    refine (union_any _ _ _ _ fy _ _ U5.out (.inr ⟨_, _, _, rfl, Y5.out⟩) (diff_row Y5.out Dyu.out)).mono ?_
    rw [upto_self ly.out]
    rintro e w6 ⟨rfl, hs, hg⟩
    have U6 := Lib.hid hs
    have X6 : Hid _ := X5.out.grown U5.out hg Dxu.out
    have Y6 : Hid _ := Y5.out.grown U5.out hg Dyu.out
    have Z6 : Hid _ := Z5.out.grown U5.out hg Dzu.out
    have M6 : Hid _ := M5.out.grown U5.out hg (Ne.symm Dum.out)
    have B6 : Hid (Below w.heap.size w w6) := below_grown B5.out hg Lu
    clear hs hg
    go_wp2_with fail
    refine (meet_any _ _ _ _ fy _ _ M6.out (.inr ⟨_, _, _, rfl, Y6.out⟩) (diff_row Y6.out Dym.out)).mono ?_
    rw [upto_self ly.out]
    rintro e w7 ⟨rfl, hs, hg⟩
    have M7 := Lib.hid hs
    have X7 : Hid _ := X6.out.grown M6.out hg Dxm.out
    have Y7 : Hid _ := Y6.out.grown M6.out hg Dym.out
    have Z7 : Hid _ := Z6.out.grown M6.out hg Dzm.out
    have U7 : Hid _ := U6.out.grown M6.out hg Dum.out
    have B7 : Hid (Below w.heap.size w w7) := below_grown B6.out hg Lm
    clear hs hg
    obtain ⟨fu, hfu⟩ : ∃ fu : Nat → Bool, fu = fun q => or (fx q) (fy q) := ⟨_, rfl⟩
    obtain ⟨fm, hfm⟩ : ∃ fm : Nat → Bool, fm = fun q => and (fx q) (fy q) := ⟨_, rfl⟩
    rw [← hfu] at U7
    rw [← hfm] at M7
    have FU := Lib.hid hfu
    have FM := Lib.hid hfm
    clear hfu hfm
    generalize chg fx _ 300 = ch1
    generalize chg fx _ 300 = ch2
    have sxu : Hid (∀ q, fx q = true → fu q = true) := fun q h => by rw [FU.out]; simp [h]
    have syu : Hid (∀ q, fy q = true → fu q = true) := fun q h => by rw [FU.out]; simp [h]
    have smx : Hid (∀ q, fm q = true → fx q = true) := fun q h => by rw [FM.out] at h; simp at h; exact h.1
    have smy : Hid (∀ q, fm q = true → fy q = true) := fun q h => by rw [FM.out] at h; simp at h; exact h.2
    go_wp2_with fail
    refine (less_sets X7.out U7.out _ (subB_iff.2 fun q _ h => sxu.out q h)).mono ?_
    rintro e w' ⟨rfl, rfl⟩
    go_wp2_with fail
    refine (less_sets Y7.out U7.out _ (subB_iff.2 fun q _ h => syu.out q h)).mono ?_
    rintro e w' ⟨rfl, rfl⟩
    go_wp2_with fail
    refine (less_sets M7.out X7.out _ (subB_iff.2 fun q _ h => smx.out q h)).mono ?_
    rintro e w' ⟨rfl, rfl⟩
    go_wp2_with fail
    refine (less_sets M7.out Y7.out _ (subB_iff.2 fun q _ h => smy.out q h)).mono ?_
    rintro e w' ⟨rfl, rfl⟩
    go_wp2_with fail
    refine (union_sub U7.out X7.out Dxu.out sxu.out).mono ?_
    rintro e w8 ⟨rfl, hs, hg⟩
    have U8 := Lib.hid hs
    have X8 : Hid _ := X7.out.grown U7.out hg Dxu.out
    have Y8 : Hid _ := Y7.out.grown U7.out hg Dyu.out
    have Z8 : Hid _ := Z7.out.grown U7.out hg Dzu.out
    have M8 : Hid _ := M7.out.grown U7.out hg (Ne.symm Dum.out)
    have B8 : Hid (Below w.heap.size w w8) := below_grown B7.out hg Lu
    clear hs hg
    go_wp2_with fail
    refine (union_sub U8.out Y8.out Dyu.out syu.out).mono ?_
    rintro e w9 ⟨rfl, hs, hg⟩
    have U9 := Lib.hid hs
    have X9 : Hid _ := X8.out.grown U8.out hg Dxu.out
    have Y9 : Hid _ := Y8.out.grown U8.out hg Dyu.out
    have Z9 : Hid _ := Z8.out.grown U8.out hg Dzu.out
    have M9 : Hid _ := M8.out.grown U8.out hg (Ne.symm Dum.out)
    have B9 : Hid (Below w.heap.size w w9) := below_grown B8.out hg Lu
    clear hs hg
    go_wp2_with fail
    refine (meet_sub M9.out X9.out Dxm.out smx.out).mono ?_
    rintro e w10 ⟨rfl, hs, hg⟩
    have M10 := Lib.hid hs
    have X10 : Hid _ := X9.out.grown M9.out hg Dxm.out
    have Y10 : Hid _ := Y9.out.grown M9.out hg Dym.out
    have Z10 : Hid _ := Z9.out.grown M9.out hg Dzm.out
    have U10 : Hid _ := U9.out.grown M9.out hg Dum.out
    have B10 : Hid (Below w.heap.size w w10) := below_grown B9.out hg Lm
    clear hs hg
    go_wp2_with fail
    refine (meet_sub M10.out Y10.out Dym.out smy.out).mono ?_
    rintro e w11 ⟨rfl, hs, hg⟩
    have M11 := Lib.hid hs
    have X11 : Hid _ := X10.out.grown M10.out hg Dxm.out
    have Y11 : Hid _ := Y10.out.grown M10.out hg Dym.out
    have Z11 : Hid _ := Z10.out.grown M10.out hg Dzm.out
    have U11 : Hid _ := U10.out.grown M10.out hg Dum.out
    have B11 : Hid (Below w.heap.size w w11) := below_grown B10.out hg Lm
    clear hs hg
    clear X1 X2 X3 X4 X5 X6 X7 X8 X9 X10 Y2 Y3 Y4 Y5 Y6 Y7 Y8 Y9 Y10 Z3 Z4 Z5 Z6 Z7 Z8 Z9 Z10 U4 U5 U6 U7 U8 U9 U10 M5 M6 M7 M8 M9 M10 B0 B1 B2 B3 B4 B5 B6 B7 B8 B9 B10
    go_wp2_with fail
    refine (less_sets X11.out Z11.out _ rfl).mono ?_
    rintro e w' ⟨rfl, rfl⟩
    cases hXZ : subB fx fz 300 with
    | false =>
      have XZ := Lib.hid hXZ
      clear hXZ
      go_wp2_with fail
      refine (less_sets Z11.out X11.out _ rfl).mono ?_
      rintro e w' ⟨rfl, rfl⟩
      cases hZX : subB fz fx 300 with
      | false =>
        have ZX := Lib.hid hZX
        clear hZX
        go_wp2_with fail
        refine (len_any _ _ _ _ _ U11.out).mono ?_
        rintro e w' ⟨rfl, rfl⟩
        go_wp2_with fail
        refine (len_any _ _ _ _ _ M11.out).mono ?_
        rintro e w' ⟨rfl, rfl⟩
        go_wp2_with fail
        refine (len_any _ _ _ _ _ X11.out).mono ?_
        rintro e w' ⟨rfl, rfl⟩
        go_wp2_with fail
        refine (len_any _ _ _ _ _ Y11.out).mono ?_
        rintro e w' ⟨rfl, rfl⟩
        have HCNT : Hid (((elems fu 300).length : Int) + ((elems fm 300).length : Int) = ((elems fx 300).length : Int) + ((elems fy 300).length : Int)) := by
          show _ = _
          have := count_both fx fy 300
          rw [← FU.out, ← FM.out] at this
          omega
        have q1 := elems_len fu 300
        have q2 := elems_len fm 300
        have q3 := elems_len fx 300
        have q4 := elems_len fy 300
        generalize (elems fu 300).length = k1 at *
        generalize (elems fm 300).length = k2 at *
        generalize (elems fx 300).length = k3 at *
        generalize (elems fy 300).length = k4 at *
        go_wp2
        go_ret
        refine ⟨?_, B11.out⟩
        show Ending.returned (Value.bool _) = _
        congr 2
        rw [beq_iff_eq]
        have hcnt := HCNT.out
        unfold wrap64
        omega
      | true =>
        have ZX := Lib.hid hZX
        clear hZX
        go_wp2_with fail
        refine (less_sets Z11.out Y11.out _ rfl).mono ?_
        rintro e w' ⟨rfl, rfl⟩
        cases hZY : subB fz fy 300 with
        | false =>
          have ZY := Lib.hid hZY
          clear hZY
          go_wp2_with fail
          refine (len_any _ _ _ _ _ U11.out).mono ?_
          rintro e w' ⟨rfl, rfl⟩
          go_wp2_with fail
          refine (len_any _ _ _ _ _ M11.out).mono ?_
          rintro e w' ⟨rfl, rfl⟩
          go_wp2_with fail
          refine (len_any _ _ _ _ _ X11.out).mono ?_
          rintro e w' ⟨rfl, rfl⟩
          go_wp2_with fail
          refine (len_any _ _ _ _ _ Y11.out).mono ?_
          rintro e w' ⟨rfl, rfl⟩
          have HCNT : Hid (((elems fu 300).length : Int) + ((elems fm 300).length : Int) = ((elems fx 300).length : Int) + ((elems fy 300).length : Int)) := by
            show _ = _
            have := count_both fx fy 300
            rw [← FU.out, ← FM.out] at this
            omega
          have q1 := elems_len fu 300
          have q2 := elems_len fm 300
          have q3 := elems_len fx 300
          have q4 := elems_len fy 300
          generalize (elems fu 300).length = k1 at *
          generalize (elems fm 300).length = k2 at *
          generalize (elems fx 300).length = k3 at *
          generalize (elems fy 300).length = k4 at *
          go_wp2
          go_ret
          refine ⟨?_, B11.out⟩
          show Ending.returned (Value.bool _) = _
          congr 2
          rw [beq_iff_eq]
          have hcnt := HCNT.out
          unfold wrap64
          omega
        | true =>
          have ZY := Lib.hid hZY
          clear hZY
          have ZM : Hid (subB fz fm 300 = true) := by
            show subB fz fm 300 = true
            rw [subB_iff]
            intro q hq hf
            rw [FM.out]
            simp [subB_iff.1 ZX.out q hq hf, subB_iff.1 ZY.out q hq hf]
          go_wp2_with fail
          refine (less_sets Z11.out M11.out _ ZM.out).mono ?_
          rintro e w' ⟨rfl, rfl⟩
          go_wp2_with fail
          refine (len_any _ _ _ _ _ U11.out).mono ?_
          rintro e w' ⟨rfl, rfl⟩
          go_wp2_with fail
          refine (len_any _ _ _ _ _ M11.out).mono ?_
          rintro e w' ⟨rfl, rfl⟩
          go_wp2_with fail
          refine (len_any _ _ _ _ _ X11.out).mono ?_
          rintro e w' ⟨rfl, rfl⟩
          go_wp2_with fail
          refine (len_any _ _ _ _ _ Y11.out).mono ?_
          rintro e w' ⟨rfl, rfl⟩
          have HCNT : Hid (((elems fu 300).length : Int) + ((elems fm 300).length : Int) = ((elems fx 300).length : Int) + ((elems fy 300).length : Int)) := by
            show _ = _
            have := count_both fx fy 300
            rw [← FU.out, ← FM.out] at this
            omega
          have q1 := elems_len fu 300
          have q2 := elems_len fm 300
          have q3 := elems_len fx 300
          have q4 := elems_len fy 300
          generalize (elems fu 300).length = k1 at *
          generalize (elems fm 300).length = k2 at *
          generalize (elems fx 300).length = k3 at *
          generalize (elems fy 300).length = k4 at *
          go_wp2
          go_ret
          refine ⟨?_, B11.out⟩
          show Ending.returned (Value.bool _) = _
          congr 2
          rw [beq_iff_eq]
          have hcnt := HCNT.out
          unfold wrap64
          omega
    | true =>
      have XZ := Lib.hid hXZ
      clear hXZ
      go_wp2_with fail
      refine (less_sets Y11.out Z11.out _ rfl).mono ?_
      rintro e w' ⟨rfl, rfl⟩
      cases hYZ : subB fy fz 300 with
      | false =>
        have YZ := Lib.hid hYZ
        clear hYZ
        go_wp2_with fail
        refine (less_sets Z11.out X11.out _ rfl).mono ?_
        rintro e w' ⟨rfl, rfl⟩
        cases hZX : subB fz fx 300 with
        | false =>
          have ZX := Lib.hid hZX
          clear hZX
          go_wp2_with fail
          refine (len_any _ _ _ _ _ U11.out).mono ?_
          rintro e w' ⟨rfl, rfl⟩
          go_wp2_with fail
          refine (len_any _ _ _ _ _ M11.out).mono ?_
          rintro e w' ⟨rfl, rfl⟩
          go_wp2_with fail
          refine (len_any _ _ _ _ _ X11.out).mono ?_
          rintro e w' ⟨rfl, rfl⟩
          go_wp2_with fail
          refine (len_any _ _ _ _ _ Y11.out).mono ?_
          rintro e w' ⟨rfl, rfl⟩
          have HCNT : Hid (((elems fu 300).length : Int) + ((elems fm 300).length : Int) = ((elems fx 300).length : Int) + ((elems fy 300).length : Int)) := by
            show _ = _
            have := count_both fx fy 300
            rw [← FU.out, ← FM.out] at this
            omega
          have q1 := elems_len fu 300
          have q2 := elems_len fm 300
          have q3 := elems_len fx 300
          have q4 := elems_len fy 300
          generalize (elems fu 300).length = k1 at *
          generalize (elems fm 300).length = k2 at *
          generalize (elems fx 300).length = k3 at *
          generalize (elems fy 300).length = k4 at *
          go_wp2
          go_ret
          refine ⟨?_, B11.out⟩
          show Ending.returned (Value.bool _) = _
          congr 2
          rw [beq_iff_eq]
          have hcnt := HCNT.out
          unfold wrap64
          omega
        | true =>
          have ZX := Lib.hid hZX
          clear hZX
          go_wp2_with fail
          refine (less_sets Z11.out Y11.out _ rfl).mono ?_
          rintro e w' ⟨rfl, rfl⟩
          cases hZY : subB fz fy 300 with
          | false =>
            have ZY := Lib.hid hZY
            clear hZY
            go_wp2_with fail
            refine (len_any _ _ _ _ _ U11.out).mono ?_
            rintro e w' ⟨rfl, rfl⟩
            go_wp2_with fail
            refine (len_any _ _ _ _ _ M11.out).mono ?_
            rintro e w' ⟨rfl, rfl⟩
            go_wp2_with fail
            refine (len_any _ _ _ _ _ X11.out).mono ?_
            rintro e w' ⟨rfl, rfl⟩
            go_wp2_with fail
            refine (len_any _ _ _ _ _ Y11.out).mono ?_
            rintro e w' ⟨rfl, rfl⟩
            have HCNT : Hid (((elems fu 300).length : Int) + ((elems fm 300).length : Int) = ((elems fx 300).length : Int) + ((elems fy 300).length : Int)) := by
              show _ = _
              have := count_both fx fy 300
              rw [← FU.out, ← FM.out] at this
              omega
            have q1 := elems_len fu 300
            have q2 := elems_len fm 300
            have q3 := elems_len fx 300
            have q4 := elems_len fy 300
            generalize (elems fu 300).length = k1 at *
            generalize (elems fm 300).length = k2 at *
            generalize (elems fx 300).length = k3 at *
            generalize (elems fy 300).length = k4 at *
            go_wp2
            go_ret
            refine ⟨?_, B11.out⟩
            show Ending.returned (Value.bool _) = _
            congr 2
            rw [beq_iff_eq]
            have hcnt := HCNT.out
            unfold wrap64
            omega
          | true =>
            have ZY := Lib.hid hZY
            clear hZY
            have ZM : Hid (subB fz fm 300 = true) := by
              show subB fz fm 300 = true
              rw [subB_iff]
              intro q hq hf
              rw [FM.out]
              simp [subB_iff.1 ZX.out q hq hf, subB_iff.1 ZY.out q hq hf]
            go_wp2_with fail
            refine (less_sets Z11.out M11.out _ ZM.out).mono ?_
            rintro e w' ⟨rfl, rfl⟩
            go_wp2_with fail
            refine (len_any _ _ _ _ _ U11.out).mono ?_
            rintro e w' ⟨rfl, rfl⟩
            go_wp2_with fail
            refine (len_any _ _ _ _ _ M11.out).mono ?_
            rintro e w' ⟨rfl, rfl⟩
            go_wp2_with fail
            refine (len_any _ _ _ _ _ X11.out).mono ?_
            rintro e w' ⟨rfl, rfl⟩
            go_wp2_with fail
            refine (len_any _ _ _ _ _ Y11.out).mono ?_
            rintro e w' ⟨rfl, rfl⟩
            have HCNT : Hid (((elems fu 300).length : Int) + ((elems fm 300).length : Int) = ((elems fx 300).length : Int) + ((elems fy 300).length : Int)) := by
              show _ = _
              have := count_both fx fy 300
              rw [← FU.out, ← FM.out] at this
              omega
            have q1 := elems_len fu 300
            have q2 := elems_len fm 300
            have q3 := elems_len fx 300
            have q4 := elems_len fy 300
            generalize (elems fu 300).length = k1 at *
            generalize (elems fm 300).length = k2 at *
            generalize (elems fx 300).length = k3 at *
            generalize (elems fy 300).length = k4 at *
            go_wp2
            go_ret
            refine ⟨?_, B11.out⟩
            show Ending.returned (Value.bool _) = _
            congr 2
            rw [beq_iff_eq]
            have hcnt := HCNT.out
            unfold wrap64
            omega
      | true =>
        have YZ := Lib.hid hYZ
        clear hYZ
        have UZ : Hid (subB fu fz 300 = true) := by
          show subB fu fz 300 = true
          rw [subB_iff]
          intro q hq hf
          rw [FU.out] at hf
          simp only [Bool.or_eq_true] at hf
          rcases hf with hf | hf
          · exact subB_iff.1 XZ.out q hq hf
          · exact subB_iff.1 YZ.out q hq hf
        go_wp2_with fail
        refine (less_sets U11.out Z11.out _ UZ.out).mono ?_
        rintro e w' ⟨rfl, rfl⟩
        go_wp2_with fail
        refine (less_sets Z11.out X11.out _ rfl).mono ?_
        rintro e w' ⟨rfl, rfl⟩
        cases hZX : subB fz fx 300 with
        | false =>
          have ZX := Lib.hid hZX
          clear hZX
          go_wp2_with fail
          refine (len_any _ _ _ _ _ U11.out).mono ?_
          rintro e w' ⟨rfl, rfl⟩
          go_wp2_with fail
          refine (len_any _ _ _ _ _ M11.out).mono ?_
          rintro e w' ⟨rfl, rfl⟩
          go_wp2_with fail
          refine (len_any _ _ _ _ _ X11.out).mono ?_
          rintro e w' ⟨rfl, rfl⟩
          go_wp2_with fail
          refine (len_any _ _ _ _ _ Y11.out).mono ?_
          rintro e w' ⟨rfl, rfl⟩
          have HCNT : Hid (((elems fu 300).length : Int) + ((elems fm 300).length : Int) = ((elems fx 300).length : Int) + ((elems fy 300).length : Int)) := by
            show _ = _
            have := count_both fx fy 300
            rw [← FU.out, ← FM.out] at this
            omega
          have q1 := elems_len fu 300
          have q2 := elems_len fm 300
          have q3 := elems_len fx 300
          have q4 := elems_len fy 300
          generalize (elems fu 300).length = k1 at *
          generalize (elems fm 300).length = k2 at *
          generalize (elems fx 300).length = k3 at *
          generalize (elems fy 300).length = k4 at *
          go_wp2
          go_ret
          refine ⟨?_, B11.out⟩
          show Ending.returned (Value.bool _) = _
          congr 2
          rw [beq_iff_eq]
          have hcnt := HCNT.out
          unfold wrap64
          omega
        | true =>
          have ZX := Lib.hid hZX
          clear hZX
          go_wp2_with fail
          refine (less_sets Z11.out Y11.out _ rfl).mono ?_
          rintro e w' ⟨rfl, rfl⟩
          cases hZY : subB fz fy 300 with
          | false =>
            have ZY := Lib.hid hZY
            clear hZY
            go_wp2_with fail
            refine (len_any _ _ _ _ _ U11.out).mono ?_
            rintro e w' ⟨rfl, rfl⟩
            go_wp2_with fail
            refine (len_any _ _ _ _ _ M11.out).mono ?_
            rintro e w' ⟨rfl, rfl⟩
            go_wp2_with fail
            refine (len_any _ _ _ _ _ X11.out).mono ?_
            rintro e w' ⟨rfl, rfl⟩
            go_wp2_with fail
            refine (len_any _ _ _ _ _ Y11.out).mono ?_
            rintro e w' ⟨rfl, rfl⟩
            have HCNT : Hid (((elems fu 300).length : Int) + ((elems fm 300).length : Int) = ((elems fx 300).length : Int) + ((elems fy 300).length : Int)) := by
              show _ = _
              have := count_both fx fy 300
              rw [← FU.out, ← FM.out] at this
              omega
            have q1 := elems_len fu 300
            have q2 := elems_len fm 300
            have q3 := elems_len fx 300
            have q4 := elems_len fy 300
            generalize (elems fu 300).length = k1 at *
            generalize (elems fm 300).length = k2 at *
            generalize (elems fx 300).length = k3 at *
            generalize (elems fy 300).length = k4 at *
            go_wp2
            go_ret
            refine ⟨?_, B11.out⟩
            show Ending.returned (Value.bool _) = _
            congr 2
            rw [beq_iff_eq]
            have hcnt := HCNT.out
            unfold wrap64
            omega
          | true =>
            have ZY := Lib.hid hZY
            clear hZY
            have ZM : Hid (subB fz fm 300 = true) := by
              show subB fz fm 300 = true
              rw [subB_iff]
              intro q hq hf
              rw [FM.out]
              simp [subB_iff.1 ZX.out q hq hf, subB_iff.1 ZY.out q hq hf]
            go_wp2_with fail
            refine (less_sets Z11.out M11.out _ ZM.out).mono ?_
            rintro e w' ⟨rfl, rfl⟩
            go_wp2_with fail
            refine (len_any _ _ _ _ _ U11.out).mono ?_
            rintro e w' ⟨rfl, rfl⟩
            go_wp2_with fail
            refine (len_any _ _ _ _ _ M11.out).mono ?_
            rintro e w' ⟨rfl, rfl⟩
            go_wp2_with fail
            refine (len_any _ _ _ _ _ X11.out).mono ?_
            rintro e w' ⟨rfl, rfl⟩
            go_wp2_with fail
            refine (len_any _ _ _ _ _ Y11.out).mono ?_
            rintro e w' ⟨rfl, rfl⟩
            have HCNT : Hid (((elems fu 300).length : Int) + ((elems fm 300).length : Int) = ((elems fx 300).length : Int) + ((elems fy 300).length : Int)) := by
              show _ = _
              have := count_both fx fy 300
              rw [← FU.out, ← FM.out] at this
              omega
            have q1 := elems_len fu 300
            have q2 := elems_len fm 300
            have q3 := elems_len fx 300
            have q4 := elems_len fy 300
            generalize (elems fu 300).length = k1 at *
            generalize (elems fm 300).length = k2 at *
            generalize (elems fx 300).length = k3 at *
            generalize (elems fy 300).length = k4 at *
            go_wp2
            go_ret
            refine ⟨?_, B11.out⟩
            show Ending.returned (Value.bool _) = _
            congr 2
            rw [beq_iff_eq]
            have hcnt := HCNT.out
            unfold wrap64
            omega
end Go.Proofs.YtgceaicokacgjaaDoor
