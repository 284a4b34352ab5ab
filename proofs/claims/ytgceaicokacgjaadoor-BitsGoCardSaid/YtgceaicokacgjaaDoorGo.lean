/- BitsGo: the walk through the law. -/
import Derived.Test.YtgceaicokacgjaaDoorGoSt
import Derived.Test.YtgceaicokacgjaaDoorLattice
import Derived.Test.YtgceaicokacgjaaDoorBasicRead
import Derived.Deep.RegionWith
import Derived.Deep.DeepCutAuto
import Derived.Deep.CutBlock
namespace Go.Proofs.YtgceaicokacgjaaDoor
open Go.RowKit

/-- Two sets of each kind in memory. -/
structure GoSt (w0 wr : World) (p b n : Nat) (f : Nat → Bool) (pt bt m : Nat) (g : Nat → Bool) (px py : Nat) (fx gy : Nat → Bool) : Prop where
  s : SetAt wr p b n f
  t : SetAt wr pt bt m g
  x : RefAt wr px n fx
  y : RefAt wr py m gy
  ne : b ≠ bt
  nxy : px ≠ py
  below : Below w0.heap.size w0 wr
  hb : w0.heap.size ≤ b
  hbt : w0.heap.size ≤ bt
  hpx : w0.heap.size ≤ px
  hpy : w0.heap.size ≤ py
theorem typ_ne {w : World} {a b : Nat} {c1 c2 : Array Value} {t u : TypeId} {f1 f2 : Nat × Nat} (h1 : w.heap[a]? = some (.cells c1 t f1)) (h2 : w.heap[b]? = some (.cells c2 u f2)) (h : t ≠ u) : a ≠ b := by
  rintro rfl
  rw [h1] at h2
  injection h2 with h2
  injection h2 with _ h4 _
  exact h h4
section
variable {w0 wr w1 : World} {p b n pt bt m px py : Nat} {f g fx gy f' : Nat → Bool}
theorem GoSt.more (h : GoSt w0 wr p b n f pt bt m g px py fx gy) (hb : Below wr.heap.size wr w1) : GoSt w0 w1 p b n f pt bt m g px py fx gy :=
  ⟨h.s.below hb, h.t.below hb, h.x.below hb, h.y.below hb, h.ne, h.nxy, h.below.trans (hb.mono h.below.size), h.hb, h.hbt, h.hpx, h.hpy⟩
theorem GoSt.swap (h : GoSt w0 wr p b n f pt bt m g px py fx gy) : GoSt w0 wr pt bt m g p b n f py px gy fx :=
  ⟨h.t, h.s, h.y, h.x, Ne.symm h.ne, Ne.symm h.nxy, h.below, h.hbt, h.hb, h.hpy, h.hpx⟩
theorem GoSt.stepS (h : GoSt w0 wr p b n f pt bt m g px py fx gy) (hs : SetAt w1 p b n f') (hg : wr.grownBy w1 (some b)) : GoSt w0 w1 p b n f' pt bt m g px py fx gy := by
  obtain ⟨vx, hx, -⟩ := h.x.obj
  obtain ⟨vy, hy, -⟩ := h.y.obj
  have hbb : ∃ cur t fr, wr.heap[b]? = some (.cells cur t fr) ∧ t ≠ 3 := ⟨_, _, _, h.s.row, by decide⟩
  exact ⟨hs, h.t.grown h.s hg (Ne.symm h.ne), h.x.grown hg (typ_ne hx h.s.row (by decide)) hbb, h.y.grown hg (typ_ne hy h.s.row (by decide)) hbb, h.ne, h.nxy,
    h.below.grown hg h.below.size (fun q hq => by cases hq; exact h.hb), h.hb, h.hbt, h.hpx, h.hpy⟩
theorem GoSt.stepX (h : GoSt w0 wr p b n f pt bt m g px py fx gy) (hs : RefAt w1 px n f') (hg : wr.grownBy w1 (some px)) : GoSt w0 w1 p b n f pt bt m g px py f' gy := by
  obtain ⟨vx, hx, -⟩ := h.x.obj
  have k : ∀ {q : Nat} {c : Array Value} {t : TypeId} {fr : Nat × Nat}, wr.heap[q]? = some (Obj.cells c t fr) → t ≠ 37 → w1.heap[q]? = wr.heap[q]? := fun {q c t fr} hq ht => hg.block q (Array.getElem?_eq_some_iff.1 hq).1 (fun e => typ_ne hq hx ht (Option.some.inj e))
  exact ⟨h.s.keep (k h.s.obj (by decide)) (k h.s.row (by decide)), h.t.keep (k h.t.obj (by decide)) (k h.t.row (by decide)), hs, h.y.grown hg (Ne.symm h.nxy) h.x.objAt, h.ne, h.nxy,
    h.below.grown hg h.below.size (fun q hq => by cases hq; exact h.hpx), h.hb, h.hbt, h.hpx, h.hpy⟩
theorem GoSt.newS {p2 b2 : Nat} (h : GoSt w0 wr p b n f pt bt m g px py fx gy) (hs : SetAt wr p2 b2 n f') (h0 : w0.heap.size ≤ b2) (hne : b2 ≠ bt) : GoSt w0 wr p2 b2 n f' pt bt m g px py fx gy :=
  ⟨hs, h.t, h.x, h.y, hne, h.nxy, h.below, h0, h.hbt, h.hpx, h.hpy⟩
end
/-- A call on a set. -/
def ROp (cs : List Value) (x : Int × Int) : Prop := cs = [.int .i64 x.1, .int .i64 x.2] ∧ (Lit.int .i64 x.1).wf = true ∧ (Lit.int .i64 x.2).wf = true

theorem nil_union (f : Nat → Bool) (n : Nat) : (fun q => f q || upto (fun _ => false) n q) = f := by funext q; simp [upto]
theorem nil_sub (f : Nat → Bool) (n : Nat) : subB f (fun _ => false) n = decide ((elems f n).length = 0) := by
  rw [subB_elems, Bool.eq_iff_iff, List.all_eq_true, decide_eq_true_eq, List.length_eq_zero_iff]
  constructor
  · intro h
    cases he : elems f n with
    | nil => rfl
    | cons x l => have := h x (by rw [he]; simp); cases this
  · intro h x hx
    rw [h] at hx; cases hx
set_option maxHeartbeats 16000000 in
set_option maxRecDepth 100000 in
theorem go_walk (w : World) (n m : Int) (v : Value) (l : List (Int × Int)) (hT : TabIn w) (hwn : (Lit.int .i64 n).wf = true) (hwm : (Lit.int .i64 m).wf = true) (hv : RSl 2 ROp w (· < w.heap.size) v l) :
    Calls Tryd.prog 5 #[.int .i64 n, .int .i64 m, v] w fun e w' => e = .returned (.bool true) ∧ Below w.heap.size w w' := by
  have HT := Lib.hid hT
  have HWN := Lib.hid hwn
  have HWM := Lib.hid hwm
  obtain ⟨a, N, cap, rfl, hN, hc, hmax, hel⟩ := hv
  have HEL := Lib.hid hel
  have HNL := Lib.hid hN
  unfold maxS at hmax
  clear hT hwn hwm hel hN
  by_cases b0 : 5000 < n
  · as_aux_lemma =>
    go_enter Tryd.func5, Tryd.ntmps5
    go_wp2_with fail
    refine (live_any _ HT.out).mono ?_
    rintro e w1 ⟨rfl, hb⟩
    have HB1 := Lib.hid hb
    clear hb
    go_wp2_with fail
    refine (new_any n HWN.out _).mono ?_
    rintro e w2 ⟨p, b, rfl, hs, -, -, hb⟩
    have HS := Lib.hid hs
    have HB2 : Hid (Below w.heap.size w w2) := HB1.out.trans (hb.mono HB1.out.size)
    clear hs hb
    go_wp2_with fail
    refine (size_any _ _ _ _ _ HS.out).mono ?_
    rintro e w' ⟨rfl, rfl⟩
    go_wp2_with fail
    refine (refNew_any n _).mono ?_
    rintro e w3 ⟨px, rfl, hx, -, hb⟩
    have HB3 : Hid (Below w.heap.size w w3) := HB2.out.trans (hb.mono HB2.out.size)
    obtain ⟨ax, cx, d0, -⟩ := hx.open
    have x1 : ((clampN n : Int) == (clampN n : Int)) = true := by simp
    clear hx hb
    go_wp2
    go_ret
    exact ⟨rfl, HB3.out⟩
  by_cases b1 : 5000 < m
  · as_aux_lemma =>
    go_enter Tryd.func5, Tryd.ntmps5
    go_wp2_with fail
    refine (live_any _ HT.out).mono ?_
    rintro e w1 ⟨rfl, hb⟩
    have HB1 := Lib.hid hb
    clear hb
    go_wp2_with fail
    refine (new_any n HWN.out _).mono ?_
    rintro e w2 ⟨p, b, rfl, hs, -, -, hb⟩
    have HS := Lib.hid hs
    have HB2 : Hid (Below w.heap.size w w2) := HB1.out.trans (hb.mono HB1.out.size)
    clear hs hb
    go_wp2_with fail
    refine (size_any _ _ _ _ _ HS.out).mono ?_
    rintro e w' ⟨rfl, rfl⟩
    go_wp2_with fail
    refine (refNew_any n _).mono ?_
    rintro e w3 ⟨px, rfl, hx, -, hb⟩
    have HB3 : Hid (Below w.heap.size w w3) := HB2.out.trans (hb.mono HB2.out.size)
    obtain ⟨ax, cx, d0, -⟩ := hx.open
    have x1 : ((clampN n : Int) == (clampN n : Int)) = true := by simp
    clear hx hb
    go_wp2
    go_ret
    exact ⟨rfl, HB3.out⟩
  by_cases b2 : 300 < N
  · as_aux_lemma =>
    go_enter Tryd.func5, Tryd.ntmps5
    go_wp2_with fail
    refine (live_any _ HT.out).mono ?_
    rintro e w1 ⟨rfl, hb⟩
    have HB1 := Lib.hid hb
    clear hb
    go_wp2_with fail
    refine (new_any n HWN.out _).mono ?_
    rintro e w2 ⟨p, b, rfl, hs, -, -, hb⟩
    have HS := Lib.hid hs
    have HB2 : Hid (Below w.heap.size w w2) := HB1.out.trans (hb.mono HB1.out.size)
    clear hs hb
    go_wp2_with fail
    refine (size_any _ _ _ _ _ HS.out).mono ?_
    rintro e w' ⟨rfl, rfl⟩
    go_wp2_with fail
    refine (refNew_any n _).mono ?_
    rintro e w3 ⟨px, rfl, hx, -, hb⟩
    have HB3 : Hid (Below w.heap.size w w3) := HB2.out.trans (hb.mono HB2.out.size)
    obtain ⟨ax, cx, d0, -⟩ := hx.open
    have x1 : ((clampN n : Int) == (clampN n : Int)) = true := by simp
    clear hx hb
    go_wp2
    go_ret
    exact ⟨rfl, HB3.out⟩
  go_enter Tryd.func5, Tryd.ntmps5
  go_wp2_with fail
  refine (live_any _ HT.out).mono ?_
  rintro e w1 ⟨rfl, hb⟩
  have HB1 := Lib.hid hb
  clear hb
  go_wp2_with fail
  refine (new_any n HWN.out _).mono ?_
  rintro e w2 ⟨p, b, rfl, hs, hp, hb0, hb⟩
  have HS := Lib.hid hs
  have HB2 : Hid (Below w.heap.size w w2) := HB1.out.trans (hb.mono HB1.out.size)
  have hb0 : w.heap.size ≤ b := Nat.le_trans HB1.out.size hb0
  clear hs hb hp
  go_wp2_with fail
  refine (new_any m HWM.out _).mono ?_
  rintro e w3 ⟨pt, bt, rfl, hs, hp, hbt0, hb⟩
  have HS3 := Lib.hid (HS.out.below hb)
  have HTT3 := Lib.hid hs
  have HB3 : Hid (Below w.heap.size w w3) := HB2.out.trans (hb.mono HB2.out.size)
  have hnb : b ≠ bt := by have := HS.out.lt.2; omega
  have hbt0 : w.heap.size ≤ bt := Nat.le_trans HB2.out.size hbt0
  clear hs hb hp HS
  go_wp2_with fail
  refine (refNew_any n _).mono ?_
  rintro e w4 ⟨px, rfl, hx, hpx, hb⟩
  have HS4 := Lib.hid (HS3.out.below hb)
  have HTT4 := Lib.hid (HTT3.out.below hb)
  have HX4 := Lib.hid hx
  have HB4 : Hid (Below w.heap.size w w4) := HB3.out.trans (hb.mono HB3.out.size)
  have hpx : w.heap.size ≤ px := Nat.le_trans HB3.out.size hpx
  clear hx hb HS3 HTT3
  go_wp2_with fail
  refine (refNew_any m _).mono ?_
  rintro e w5 ⟨py, rfl, hy, hpy, hb⟩
  have hnx : px ≠ py := by have := HX4.out.lt; omega
  have hpy : w.heap.size ≤ py := Nat.le_trans HB4.out.size hpy
  have HG0 : Hid (GoSt w w5 p b (clampN n) (fun _ => false) pt bt (clampN m) (fun _ => false) px py (fun _ => false) (fun _ => false)) :=
    ⟨HS4.out.below hb, HTT4.out.below hb, HX4.out.below hb, hy, hnb, hnx, HB4.out.trans (hb.mono HB4.out.size), hb0, hbt0, hpx, hpy⟩
  clear hy hb hnx hnb hpx hpy hb0 hbt0 HS4 HTT4 HX4 HB4 HB3 HB2 HB1
  go_wp2
  go_loopw [8, 9, 10, 11, 56] (fun v8 v9 v10 v11 v56 wr => ∃ (k p b n : Nat) (f : Nat → Bool) (pt bt m : Nat) (g : Nat → Bool) (px py : Nat), k ≤ N ∧ v8 = .pointer (some ⟨p, 0, none⟩) ∧ v9 = .pointer (some ⟨pt, 0, none⟩) ∧ v10 = .pointer (some ⟨px, 0, none⟩) ∧ v11 = .pointer (some ⟨py, 0, none⟩) ∧ v56 = .int .i64 k ∧ Hid (GoSt w wr p b n f pt bt m g px py f g)) (fun _ _ _ _ v56 _ => N - (intOf v56).toNat)
  case atStart => exact ⟨0, _, _, _, _, _, _, _, _, _, _, by omega, rfl, rfl, rfl, rfl, rfl, HG0⟩
  case round =>
    clear HG0
    obtain ⟨k, p, b, n, f, pt, bt, m, g, px, py, hk, rfl, rfl, rfl, rfl, rfl, HG⟩ := hrel
    by_cases hlt : k < N
    · obtain ⟨⟨d, i⟩, hx⟩ : ∃ x, l[k]? = some x := ⟨_, List.getElem?_eq_getElem (by have := HNL.out; omega)⟩
      obtain ⟨b0, off, cs, rfl, hbl, hc, rfl, -, hwi⟩ := HEL.out k _ hx
      have hc := cellsAt_of_block (HG.out.below.block b0 hbl) hc
      obtain ⟨c0, c1, -⟩ := hc
      have HWI := Lib.hid hwi
      clear hx hbl hwi
      by_cases d0 : d = 0
      · as_aux_lemma =>
        subst d0
        have HG1 := Lib.hid (HG.out.more ((Below.refl _ _).alloc (Nat.le_refl _) (.cells #[.int .i64 0, .int .i64 i] 41)))
        obtain ⟨wa, hwa⟩ : ∃ wa, wa = wr.alloc (.cells #[.int .i64 0, .int .i64 i] 41) := ⟨_, rfl⟩
        obtain ⟨ob, hob⟩ : ∃ ob, ob = wr.heap.size := ⟨_, rfl⟩
        have S1 : wa.cell? ⟨ob, 1, none⟩ = some (.int .i64 i) := by rw [hwa, hob]; simp
        have hol : ob < wa.heap.size := cell_lt S1
        have HNB : Hid (ob ≠ b ∧ ob ≠ px) := by
          have h1 := HG.out.s.lt.2
          have h2 := HG.out.x.lt
          exact ⟨by omega, by omega⟩
        rw [← hwa] at HG1
        have HWA := Lib.hid hwa
        have HOB := Lib.hid hob
        clear HG hwa hob
        generalize hcc : canAdd f n i = cc at *
        have x1 : (cc == cc) = true := by simp
        have HCC := Lib.hid hcc
        clear hcc
        go_upto_region 16 with (fail)
        rw [← HWA.out, ← HOB.out]
        clear c0 c1
        go_region_with (first
          | (go_at_call 19; refine (add_any i HWI.out _ _ _ _ _ (HG1.out.more (by go_grown)).s).mono ?_
             rw [HCC.out]
             rintro e w6 ⟨rfl, h1, h2⟩
             have HG2 := Lib.hid ((HG1.out.more (by go_grown)).stepS h1 h2)
             have k1 : w6.cell? ⟨ob, 1, none⟩ = some (.int .i64 i) := (h2.cell_far ⟨ob, 1, none⟩ (by simpa using hol) (by simpa using HNB.out.1)).trans (by simpa using S1)
             have hol6 : ob < w6.heap.size := cell_lt k1
             clear h1 h2)
          | (go_at_call 20; refine (refAdd_any i _ _ _ _ (HG2.out.more (by go_grown)).x).mono ?_
             rw [HCC.out]
             rintro e w7 ⟨rfl, h1, h2⟩
             have HG := Lib.hid ((HG2.out.more (by go_grown)).stepX h1 h2)
             clear h1 h2))
        all_goals
          clear HG1 HG2
          go_wp2_with fail
          refine (same2_any _ _ _ _ _ _ (HT.out.keep HG.out.below) HG.out.s HG.out.x).mono ?_
          rintro e w8 ⟨rfl, hb⟩
          have HG8 := Lib.hid (HG.out.more hb)
          clear hb HG
          go_wp2_with fail
          refine (same2_any _ _ _ _ _ _ (HT.out.keep HG8.out.below) HG8.out.t HG8.out.y).mono ?_
          rintro e w9 ⟨rfl, hb⟩
          have HG9 := Lib.hid (HG8.out.more hb)
          clear hb HG8
          go_wp2
          exact ⟨⟨k + 1, _, _, _, _, _, _, _, _, _, _, by omega, rfl, rfl, rfl, rfl, by go_num, HG9⟩, by simp [intOf]; omega⟩
      by_cases d1 : d = 1
      · as_aux_lemma =>
        subst d1
        have HG1 := Lib.hid (HG.out.more ((Below.refl _ _).alloc (Nat.le_refl _) (.cells #[.int .i64 1, .int .i64 i] 41)))
        obtain ⟨wa, hwa⟩ : ∃ wa, wa = wr.alloc (.cells #[.int .i64 1, .int .i64 i] 41) := ⟨_, rfl⟩
        obtain ⟨ob, hob⟩ : ∃ ob, ob = wr.heap.size := ⟨_, rfl⟩
        have S1 : wa.cell? ⟨ob, 1, none⟩ = some (.int .i64 i) := by rw [hwa, hob]; simp
        have hol : ob < wa.heap.size := cell_lt S1
        have HNB : Hid (ob ≠ b ∧ ob ≠ px) := by
          have h1 := HG.out.s.lt.2
          have h2 := HG.out.x.lt
          exact ⟨by omega, by omega⟩
        rw [← hwa] at HG1
        have HWA := Lib.hid hwa
        have HOB := Lib.hid hob
        clear HG hwa hob
        generalize hcc : inB f i = cc at *
        have x1 : (cc == cc) = true := by simp
        have HCC := Lib.hid hcc
        clear hcc
        go_upto_region 18 with (fail)
        rw [← HWA.out, ← HOB.out]
        clear c0 c1
        go_region_with (first
          | (go_at_call 8; refine (del_any i HWI.out _ _ _ _ _ (HG1.out.more (by go_grown)).s).mono ?_
             rw [HCC.out]
             rintro e w6 ⟨rfl, h1, h2⟩
             have HG2 := Lib.hid ((HG1.out.more (by go_grown)).stepS h1 h2)
             have k1 : w6.cell? ⟨ob, 1, none⟩ = some (.int .i64 i) := (h2.cell_far ⟨ob, 1, none⟩ (by simpa using hol) (by simpa using HNB.out.1)).trans (by simpa using S1)
             have hol6 : ob < w6.heap.size := cell_lt k1
             clear h1 h2)
          | (go_at_call 21; refine (refDel_any i _ _ _ _ (HG2.out.more (by go_grown)).x).mono ?_
             rw [HCC.out]
             rintro e w7 ⟨rfl, h1, h2⟩
             have HG := Lib.hid ((HG2.out.more (by go_grown)).stepX h1 h2)
             clear h1 h2))
        all_goals
          clear HG1 HG2
          go_wp2_with fail
          refine (same2_any _ _ _ _ _ _ (HT.out.keep HG.out.below) HG.out.s HG.out.x).mono ?_
          rintro e w8 ⟨rfl, hb⟩
          have HG8 := Lib.hid (HG.out.more hb)
          clear hb HG
          go_wp2_with fail
          refine (same2_any _ _ _ _ _ _ (HT.out.keep HG8.out.below) HG8.out.t HG8.out.y).mono ?_
          rintro e w9 ⟨rfl, hb⟩
          have HG9 := Lib.hid (HG8.out.more hb)
          clear hb HG8
          go_wp2
          exact ⟨⟨k + 1, _, _, _, _, _, _, _, _, _, _, by omega, rfl, rfl, rfl, rfl, by go_num, HG9⟩, by simp [intOf]; omega⟩
      by_cases d2 : d = 2
      · as_aux_lemma =>
        subst d2
        have HG1 := Lib.hid (HG.out.more ((Below.refl _ _).alloc (Nat.le_refl _) (.cells #[.int .i64 2, .int .i64 i] 41)))
        obtain ⟨wa, hwa⟩ : ∃ wa, wa = wr.alloc (.cells #[.int .i64 2, .int .i64 i] 41) := ⟨_, rfl⟩
        obtain ⟨ob, hob⟩ : ∃ ob, ob = wr.heap.size := ⟨_, rfl⟩
        have S1 : wa.cell? ⟨ob, 1, none⟩ = some (.int .i64 i) := by rw [hwa, hob]; simp
        rw [← hwa] at HG1
        have HWA := Lib.hid hwa
        have HOB := Lib.hid hob
        clear HG hwa hob
        generalize hcc : inB f i = cc at *
        have x1 : (cc == cc) = true := by simp
        have HCC := Lib.hid hcc
        clear hcc
        go_upto_region 20 with (fail)
        rw [← HWA.out, ← HOB.out]
        clear c0 c1
        go_region_with (first
          | (go_at_call 10; refine (has_any i HWI.out _ _ _ _ _ (HG1.out.more (by go_grown)).s).mono ?_
             rw [HCC.out]
             rintro e w6 ⟨rfl, rfl⟩)
          | (go_at_call 22; refine (refHas_any i _ _ _ _ (HG1.out.more (by go_grown)).x).mono ?_
             rw [HCC.out]
             rintro e w7 ⟨rfl, rfl⟩))
        all_goals
          generalize hwz : World.drew _ = wz
          have HG := Lib.hid (HG1.out.more (w1 := wz) (by rw [← hwz]; go_grown))
          clear HG1 hwz
          go_wp2_with fail
          refine (same2_any _ _ _ _ _ _ (HT.out.keep HG.out.below) HG.out.s HG.out.x).mono ?_
          rintro e w8 ⟨rfl, hb⟩
          have HG8 := Lib.hid (HG.out.more hb)
          clear hb HG
          go_wp2_with fail
          refine (same2_any _ _ _ _ _ _ (HT.out.keep HG8.out.below) HG8.out.t HG8.out.y).mono ?_
          rintro e w9 ⟨rfl, hb⟩
          have HG9 := Lib.hid (HG8.out.more hb)
          clear hb HG8
          go_wp2
          exact ⟨⟨k + 1, _, _, _, _, _, _, _, _, _, _, by omega, rfl, rfl, rfl, rfl, by go_num, HG9⟩, by simp [intOf]; omega⟩
      by_cases d3 : d = 3
      · as_aux_lemma =>
        subst d3
        have HG1 := Lib.hid (HG.out.more ((Below.refl _ _).alloc (Nat.le_refl _) (.cells #[.int .i64 3, .int .i64 i] 41)))
        clear HG
        go_wp2_with fail
        refine (union_any _ _ _ _ _ _ _ HG1.out.s (.inr ⟨_, _, _, rfl, HG1.out.t⟩) (diff_row HG1.out.t (Ne.symm HG1.out.ne))).mono ?_
        rintro e w6 ⟨rfl, h1, h2⟩
        have HG2 := Lib.hid (HG1.out.stepS h1 h2)
        clear h1 h2 HG1
        go_wp2_with fail
        refine (refUnion_any _ _ _ _ _ _ _ HG2.out.x HG2.out.y HG2.out.nxy).mono ?_
        rintro e w7 ⟨rfl, h1, h2⟩
        have HG := Lib.hid (HG2.out.stepX h1 h2)
        clear h1 h2 HG2
        generalize hcc : chg f (fun q => f q || upto g n q) n = cc
        have x1 : (cc == cc) = true := by simp
        clear hcc
        go_wp2_with fail
        refine (same2_any _ _ _ _ _ _ (HT.out.keep HG.out.below) HG.out.s HG.out.x).mono ?_
        rintro e w8 ⟨rfl, hb⟩
        have HG8 := Lib.hid (HG.out.more hb)
        clear hb HG
        go_wp2_with fail
        refine (same2_any _ _ _ _ _ _ (HT.out.keep HG8.out.below) HG8.out.t HG8.out.y).mono ?_
        rintro e w9 ⟨rfl, hb⟩
        have HG9 := Lib.hid (HG8.out.more hb)
        clear hb HG8
        go_wp2
        exact ⟨⟨k + 1, _, _, _, _, _, _, _, _, _, _, by omega, rfl, rfl, rfl, rfl, by go_num, HG9⟩, by simp [intOf]; omega⟩
      by_cases d4 : d = 4
      · as_aux_lemma =>
        subst d4
        have HG1 := Lib.hid (HG.out.more ((Below.refl _ _).alloc (Nat.le_refl _) (.cells #[.int .i64 4, .int .i64 i] 41)))
        clear HG
        go_wp2_with fail
        refine (meet_any _ _ _ _ _ _ _ HG1.out.s (.inr ⟨_, _, _, rfl, HG1.out.t⟩) (diff_row HG1.out.t (Ne.symm HG1.out.ne))).mono ?_
        rintro e w6 ⟨rfl, h1, h2⟩
        have HG2 := Lib.hid (HG1.out.stepS h1 h2)
        clear h1 h2 HG1
        go_wp2_with fail
        refine (refMeet_any _ _ _ _ _ _ _ HG2.out.x HG2.out.y HG2.out.nxy).mono ?_
        rintro e w7 ⟨rfl, h1, h2⟩
        have HG := Lib.hid (HG2.out.stepX h1 h2)
        clear h1 h2 HG2
        generalize hcc : chg f (fun q => f q && upto g n q) n = cc
        have x1 : (cc == cc) = true := by simp
        clear hcc
        go_wp2_with fail
        refine (same2_any _ _ _ _ _ _ (HT.out.keep HG.out.below) HG.out.s HG.out.x).mono ?_
        rintro e w8 ⟨rfl, hb⟩
        have HG8 := Lib.hid (HG.out.more hb)
        clear hb HG
        go_wp2_with fail
        refine (same2_any _ _ _ _ _ _ (HT.out.keep HG8.out.below) HG8.out.t HG8.out.y).mono ?_
        rintro e w9 ⟨rfl, hb⟩
        have HG9 := Lib.hid (HG8.out.more hb)
        clear hb HG8
        go_wp2
        exact ⟨⟨k + 1, _, _, _, _, _, _, _, _, _, _, by omega, rfl, rfl, rfl, rfl, by go_num, HG9⟩, by simp [intOf]; omega⟩
      by_cases d5 : d = 5
      · as_aux_lemma =>
        subst d5
        have HG1 := Lib.hid (HG.out.more ((Below.refl _ _).alloc (Nat.le_refl _) (.cells #[.int .i64 5, .int .i64 i] 41)))
        clear HG
        go_wp2_with fail
        refine (less_any _ _ _ _ _ _ _ HG1.out.s (.inr ⟨_, _, _, rfl, HG1.out.t⟩)).mono ?_
        rintro e w' ⟨rfl, rfl⟩
        go_wp2_with fail
        refine (refLess_any _ _ _ _ _ _ _ HG1.out.x HG1.out.y).mono ?_
        rintro e w' ⟨rfl, rfl⟩
        have HG := HG1
        generalize hcc : subB f g n = cc
        have x1 : (cc == cc) = true := by simp
        clear hcc
        go_wp2_with fail
        refine (same2_any _ _ _ _ _ _ (HT.out.keep HG.out.below) HG.out.s HG.out.x).mono ?_
        rintro e w8 ⟨rfl, hb⟩
        have HG8 := Lib.hid (HG.out.more hb)
        clear hb HG
        go_wp2_with fail
        refine (same2_any _ _ _ _ _ _ (HT.out.keep HG8.out.below) HG8.out.t HG8.out.y).mono ?_
        rintro e w9 ⟨rfl, hb⟩
        have HG9 := Lib.hid (HG8.out.more hb)
        clear hb HG8
        go_wp2
        exact ⟨⟨k + 1, _, _, _, _, _, _, _, _, _, _, by omega, rfl, rfl, rfl, rfl, by go_num, HG9⟩, by simp [intOf]; omega⟩
      by_cases d6 : d = 6
      · as_aux_lemma =>
        subst d6
        have HG1 := Lib.hid (HG.out.more ((Below.refl _ _).alloc (Nat.le_refl _) (.cells #[.int .i64 6, .int .i64 i] 41)))
        clear HG
        go_wp2_with fail
        refine (same_any _ _ _ _ _ _ _ _ _ HG1.out.s HG1.out.t).mono ?_
        rintro e w' ⟨rfl, rfl⟩
        go_wp2_with fail
        refine (refSame_any _ _ _ _ _ _ _ HG1.out.x HG1.out.y).mono ?_
        rintro e w' ⟨rfl, rfl⟩
        have HG := HG1
        generalize hcc : (subB f g n && subB g f m) = cc
        have x1 : (cc == cc) = true := by simp
        clear hcc
        go_wp2_with fail
        refine (same2_any _ _ _ _ _ _ (HT.out.keep HG.out.below) HG.out.s HG.out.x).mono ?_
        rintro e w8 ⟨rfl, hb⟩
        have HG8 := Lib.hid (HG.out.more hb)
        clear hb HG
        go_wp2_with fail
        refine (same2_any _ _ _ _ _ _ (HT.out.keep HG8.out.below) HG8.out.t HG8.out.y).mono ?_
        rintro e w9 ⟨rfl, hb⟩
        have HG9 := Lib.hid (HG8.out.more hb)
        clear hb HG8
        go_wp2
        exact ⟨⟨k + 1, _, _, _, _, _, _, _, _, _, _, by omega, rfl, rfl, rfl, rfl, by go_num, HG9⟩, by simp [intOf]; omega⟩
      by_cases d7 : d = 7
      · as_aux_lemma =>
        subst d7
        have HG1 := Lib.hid (HG.out.more ((Below.refl _ _).alloc (Nat.le_refl _) (.cells #[.int .i64 7, .int .i64 i] 41)))
        clear HG
        go_wp2_with fail
        refine (clone_any _ _ _ _ _ HG1.out.s).mono ?_
        rintro e w6 ⟨p2, b2, rfl, hs2, hp2, hb2, hb⟩
        have HG2 := Lib.hid (HG1.out.more hb)
        have HS2 := Lib.hid hs2
        have hne2 : b2 ≠ b ∧ b2 ≠ bt ∧ w.heap.size ≤ b2 := by
          have h1 := HG1.out.s.lt.2
          have h2 := HG1.out.t.lt.2
          have h3 := HG1.out.below.size
          exact ⟨by omega, by omega, by omega⟩
        have HNE2 := Lib.hid hne2
        clear hs2 hb hne2 HG1 hp2 hb2
        go_wp2_with fail
        refine (add_any 1 (by decide) _ _ _ _ _ HG2.out.s).mono ?_
        rintro e w7 ⟨rfl, h1, h2⟩
        have HG3 := Lib.hid (HG2.out.stepS h1 h2)
        have HS3 := Lib.hid (HS2.out.grown HG2.out.s h2 HNE2.out.1)
        clear h1 h2 HG2 HS2
        go_wp2_with fail
        refine (del_any 0 (by decide) _ _ _ _ _ HG3.out.s).mono ?_
        rintro e w8 ⟨rfl, h1, h2⟩
        have HG4 := Lib.hid (HG3.out.stepS h1 h2)
        have HS4 := Lib.hid (HS3.out.grown HG3.out.s h2 HNE2.out.1)
        have HG := Lib.hid (HG4.out.newS HS4.out HNE2.out.2.2 HNE2.out.2.1)
        clear h1 h2 HG3 HS3 HG4 HS4
        go_wp2_with fail
        refine (same2_any _ _ _ _ _ _ (HT.out.keep HG.out.below) HG.out.s HG.out.x).mono ?_
        rintro e w8 ⟨rfl, hb⟩
        have HG8 := Lib.hid (HG.out.more hb)
        clear hb HG
        go_wp2_with fail
        refine (same2_any _ _ _ _ _ _ (HT.out.keep HG8.out.below) HG8.out.t HG8.out.y).mono ?_
        rintro e w9 ⟨rfl, hb⟩
        have HG9 := Lib.hid (HG8.out.more hb)
        clear hb HG8
        go_wp2
        exact ⟨⟨k + 1, _, _, _, _, _, _, _, _, _, _, by omega, rfl, rfl, rfl, rfl, by go_num, HG9⟩, by simp [intOf]; omega⟩
      by_cases d8 : d = 8
      · as_aux_lemma =>
        subst d8
        have HG1 := Lib.hid (HG.out.more ((Below.refl _ _).alloc (Nat.le_refl _) (.cells #[.int .i64 8, .int .i64 i] 41)))
        clear HG
        have HG := Lib.hid HG1.out.swap
        clear HG1
        go_wp2_with fail
        refine (same2_any _ _ _ _ _ _ (HT.out.keep HG.out.below) HG.out.s HG.out.x).mono ?_
        rintro e w8 ⟨rfl, hb⟩
        have HG8 := Lib.hid (HG.out.more hb)
        clear hb HG
        go_wp2_with fail
        refine (same2_any _ _ _ _ _ _ (HT.out.keep HG8.out.below) HG8.out.t HG8.out.y).mono ?_
        rintro e w9 ⟨rfl, hb⟩
        have HG9 := Lib.hid (HG8.out.more hb)
        clear hb HG8
        go_wp2
        exact ⟨⟨k + 1, _, _, _, _, _, _, _, _, _, _, by omega, rfl, rfl, rfl, rfl, by go_num, HG9⟩, by simp [intOf]; omega⟩
      by_cases d9 : d = 9
      · as_aux_lemma =>
        subst d9
        have HG1 := Lib.hid (HG.out.more ((Below.refl _ _).alloc (Nat.le_refl _) (.cells #[.int .i64 9, .int .i64 i] 41)))
        clear HG
        go_wp2_with fail
        refine (union_self _ _ _ _ _ HG1.out.s).mono ?_
        rintro e w6 ⟨rfl, h1, h2⟩
        have HG2 := Lib.hid (HG1.out.stepS h1 h2)
        clear h1 h2 HG1
        go_wp2_with fail
        refine (meet_self _ _ _ _ _ HG2.out.s).mono ?_
        rintro e w7 ⟨rfl, h1, h2⟩
        have HG3 := Lib.hid (HG2.out.stepS h1 h2)
        clear h1 h2 HG2
        go_wp2_with fail
        refine (same_any _ _ _ _ _ _ _ _ _ HG3.out.s HG3.out.s).mono ?_
        have hsub : subB f f n = true := subB_iff.2 fun q _ h => h
        rw [hsub]
        rintro e w' ⟨rfl, rfl⟩
        have HG := HG3
        clear hsub
        go_wp2_with fail
        refine (same2_any _ _ _ _ _ _ (HT.out.keep HG.out.below) HG.out.s HG.out.x).mono ?_
        rintro e w8 ⟨rfl, hb⟩
        have HG8 := Lib.hid (HG.out.more hb)
        clear hb HG
        go_wp2_with fail
        refine (same2_any _ _ _ _ _ _ (HT.out.keep HG8.out.below) HG8.out.t HG8.out.y).mono ?_
        rintro e w9 ⟨rfl, hb⟩
        have HG9 := Lib.hid (HG8.out.more hb)
        clear hb HG8
        go_wp2
        exact ⟨⟨k + 1, _, _, _, _, _, _, _, _, _, _, by omega, rfl, rfl, rfl, rfl, by go_num, HG9⟩, by simp [intOf]; omega⟩
      by_cases d10 : d = 10
      · as_aux_lemma =>
        subst d10
        have HG1 := Lib.hid (HG.out.more ((Below.refl _ _).alloc (Nat.le_refl _) (.cells #[.int .i64 10, .int .i64 i] 41)))
        obtain ⟨wa, hwa⟩ : ∃ wa, wa = wr.alloc (.cells #[.int .i64 10, .int .i64 i] 41) := ⟨_, rfl⟩
        rw [← hwa] at HG1
        have HWA := Lib.hid hwa
        obtain ⟨ax, cx, -, d1, -⟩ := HG1.out.x.open
        clear HG hwa
        by_cases hL : (elems f n).length = 0
        · as_aux_lemma =>
          have HL : Hid (decide ((elems f n).length = 0) = true) := by show _ = _; simpa using hL
          have HSUB : Hid (subB f (fun _ => false) n = true) := by show _ = _; rw [nil_sub]; simpa using hL
          obtain ⟨L, hLe⟩ : ∃ L, L = (elems f n).length := ⟨_, rfl⟩
          have x1 : ((L : Int) == 0) = true := by rw [hLe]; simpa using hL
          rw [← hLe] at d1
          clear hL hLe
          go_upto_region 41 with (fail)
          rw [← HWA.out]
          clear c0 c1
          have HWD : Hid (Below wa.heap.size wa wa.drew) := (Below.refl _ _).drew
          have HC1 : Hid (Calls Tryd.prog 26 #[.pointer (some ⟨p, 0, none⟩), .pointer none] wa.drew fun e w' => e = .returned (.bool true) ∧ w' = wa.drew) := by
            have h := same_nil p b n f wa.drew (HG1.out.more HWD.out).s
            rw [HL.out] at h
            exact h.mono fun _ _ k => ⟨k.1, k.2.symm⟩
          have HC2 : Hid (Calls Tryd.prog 15 #[.pointer (some ⟨p, 0, none⟩), .pointer none] wa.drew fun e w' => e = .returned (.bool true) ∧ w' = wa.drew) := by
            have h := less_any p b n f (fun _ => false) (.pointer none) wa.drew (HG1.out.more HWD.out).s (.inl ⟨rfl, rfl⟩)
            rw [HSUB.out] at h
            exact h.mono fun _ _ k => ⟨k.1, k.2.symm⟩
          go_still_tail 22, (by kernel_rfl)
          still_call HC1.out
          repeat still_step
          still_call HC2.out
          repeat still_step
          refine wpStill_nil ?_
          change wpList _ _ _ _ _ wa.drew
          have HGD := Lib.hid (HG1.out.more HWD.out)
          generalize wa.drew = wd at *
          clear HG1 HWD HC1 HC2
          go_wp2_with fail
          refine (union_any _ _ _ _ (fun _ => false) _ _ HGD.out.s (.inl ⟨rfl, rfl⟩) (fun _ _ _ e => by cases e)).mono ?_
          rw [nil_union, chg_refl]
          rintro e w7 ⟨rfl, h1, h2⟩
          have HG := Lib.hid (HGD.out.stepS h1 h2)
          clear h1 h2 HGD
          go_wp2_with fail
          refine (same2_any _ _ _ _ _ _ (HT.out.keep HG.out.below) HG.out.s HG.out.x).mono ?_
          rintro e w8 ⟨rfl, hb⟩
          have HG8 := Lib.hid (HG.out.more hb)
          clear hb HG
          go_wp2_with fail
          refine (same2_any _ _ _ _ _ _ (HT.out.keep HG8.out.below) HG8.out.t HG8.out.y).mono ?_
          rintro e w9 ⟨rfl, hb⟩
          have HG9 := Lib.hid (HG8.out.more hb)
          clear hb HG8
          go_wp2
          exact ⟨⟨k + 1, _, _, _, _, _, _, _, _, _, _, by omega, rfl, rfl, rfl, rfl, by go_num, HG9⟩, by simp [intOf]; omega⟩
        · as_aux_lemma =>
          have HL : Hid (decide ((elems f n).length = 0) = false) := by show _ = _; simpa using hL
          have HSUB : Hid (subB f (fun _ => false) n = false) := by show _ = _; rw [nil_sub]; simpa using hL
          obtain ⟨L, hLe⟩ : ∃ L, L = (elems f n).length := ⟨_, rfl⟩
          have x1 : ((L : Int) == 0) = false := by rw [hLe]; simpa using hL
          rw [← hLe] at d1
          clear hL hLe
          go_upto_region 41 with (fail)
          rw [← HWA.out]
          clear c0 c1
          have HWD : Hid (Below wa.heap.size wa wa.drew) := (Below.refl _ _).drew
          have HC1 : Hid (Calls Tryd.prog 26 #[.pointer (some ⟨p, 0, none⟩), .pointer none] wa.drew fun e w' => e = .returned (.bool false) ∧ w' = wa.drew) := by
            have h := same_nil p b n f wa.drew (HG1.out.more HWD.out).s
            rw [HL.out] at h
            exact h.mono fun _ _ k => ⟨k.1, k.2.symm⟩
          have HC2 : Hid (Calls Tryd.prog 15 #[.pointer (some ⟨p, 0, none⟩), .pointer none] wa.drew fun e w' => e = .returned (.bool false) ∧ w' = wa.drew) := by
            have h := less_any p b n f (fun _ => false) (.pointer none) wa.drew (HG1.out.more HWD.out).s (.inl ⟨rfl, rfl⟩)
            rw [HSUB.out] at h
            exact h.mono fun _ _ k => ⟨k.1, k.2.symm⟩
          go_still_tail 22, (by kernel_rfl)
          still_call HC1.out
          repeat still_step
          still_call HC2.out
          repeat still_step
          refine wpStill_nil ?_
          change wpList _ _ _ _ _ wa.drew
          have HGD := Lib.hid (HG1.out.more HWD.out)
          generalize wa.drew = wd at *
          clear HG1 HWD HC1 HC2
          go_wp2_with fail
          refine (union_any _ _ _ _ (fun _ => false) _ _ HGD.out.s (.inl ⟨rfl, rfl⟩) (fun _ _ _ e => by cases e)).mono ?_
          rw [nil_union, chg_refl]
          rintro e w7 ⟨rfl, h1, h2⟩
          have HG := Lib.hid (HGD.out.stepS h1 h2)
          clear h1 h2 HGD
          go_wp2_with fail
          refine (same2_any _ _ _ _ _ _ (HT.out.keep HG.out.below) HG.out.s HG.out.x).mono ?_
          rintro e w8 ⟨rfl, hb⟩
          have HG8 := Lib.hid (HG.out.more hb)
          clear hb HG
          go_wp2_with fail
          refine (same2_any _ _ _ _ _ _ (HT.out.keep HG8.out.below) HG8.out.t HG8.out.y).mono ?_
          rintro e w9 ⟨rfl, hb⟩
          have HG9 := Lib.hid (HG8.out.more hb)
          clear hb HG8
          go_wp2
          exact ⟨⟨k + 1, _, _, _, _, _, _, _, _, _, _, by omega, rfl, rfl, rfl, rfl, by go_num, HG9⟩, by simp [intOf]; omega⟩
      · have HG1 := Lib.hid (HG.out.more ((Below.refl _ _).alloc (Nat.le_refl _) (.cells #[.int .i64 d, .int .i64 i] 41)))
        clear HG
        have HG := HG1
        clear HG1
        go_wp2_with fail
        refine (same2_any _ _ _ _ _ _ (HT.out.keep HG.out.below) HG.out.s HG.out.x).mono ?_
        rintro e w8 ⟨rfl, hb⟩
        have HG8 := Lib.hid (HG.out.more hb)
        clear hb HG
        go_wp2_with fail
        refine (same2_any _ _ _ _ _ _ (HT.out.keep HG8.out.below) HG8.out.t HG8.out.y).mono ?_
        rintro e w9 ⟨rfl, hb⟩
        have HG9 := Lib.hid (HG8.out.more hb)
        clear hb HG8
        go_wp2
        exact ⟨⟨k + 1, _, _, _, _, _, _, _, _, _, _, by omega, rfl, rfl, rfl, rfl, by go_num, HG9⟩, by simp [intOf]; omega⟩
    · go_wp2
      go_ret
      exact ⟨rfl, HG.out.below⟩
end Go.Proofs.YtgceaicokacgjaaDoor
