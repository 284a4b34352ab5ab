/- Joined by my own program, in build order: Edges. -/
import Derived.Test.YtnmfbaahabcocaaDoorChecked
import Derived.Test.YtnmfbaahabcocaaDoorY6
import Derived.WalkKit
import Derived.ProofKit
import Derived.Lib.Hide
import Derived.WalkLawsBesides
set_option linter.unusedVariables false
set_option linter.unusedSimpArgs false
section
namespace Go.Proofs.YtnmfbaahabcocaaDoor
open Go.RowKit
structure Edge where
  fr : Int
  tt : Int
  deriving DecidableEq
def RE (w : World) (v : Value) (l : List Edge) : Prop :=
  ∃ a n cap, v = .slice a n cap ∧ l.length = n ∧ n ≤ 4611686018427387904 ∧ ∀ i x, l[i]? = some x → ∃ b off, a = some ⟨b, off, none⟩ ∧ b < w.heap.size ∧ w.cell? ⟨b, off + i * 2, none⟩ = some (.int .i64 x.fr) ∧ w.cell? ⟨b, off + i * 2 + 1, none⟩ = some (.int .i64 x.tt)
theorem RE.below {w w' : World} {v : Value} {l : List Edge} (h : RE w v l) (hb : Below w.heap.size w w') : RE w' v l := by
  obtain ⟨a, n, cap, h1, h2, h3, h4⟩ := h
  refine ⟨a, n, cap, h1, h2, h3, fun i x hx => ?_⟩
  obtain ⟨b, off, ha, hlt, hc, hd⟩ := h4 i x hx
  exact ⟨b, off, ha, Nat.lt_of_lt_of_le hlt hb.size, (hb.cell (p := ⟨b, off + i * 2, none⟩) hlt).trans hc, (hb.cell (p := ⟨b, off + i * 2 + 1, none⟩) hlt).trans hd⟩
def edgeB (n : Int) (x : Edge) : Bool := decide (0 ≤ x.fr) && decide (x.fr < n) && decide (0 ≤ x.tt) && decide (x.tt < n)
def graphB (n : Int) (l : List Edge) : Bool := decide (0 ≤ n) && decide (n ≤ 100000) && l.all (edgeB n)
def edgeErr (b : Bool) : Int := match b with | true => 0 | false => 150
theorem edge_bad (n : Int) (x : Edge) (h : x.fr < 0 ∨ x.tt < 0 ∨ n ≤ x.fr ∨ n ≤ x.tt) : (!edgeB n x) = true := by
  unfold edgeB
  simp only [Bool.not_eq_true', Bool.and_eq_false_iff, decide_eq_false_iff_not]
  omega
theorem edge_good (n : Int) (x : Edge) (h : 0 ≤ x.fr ∧ 0 ≤ x.tt ∧ x.fr < n ∧ x.tt < n) : (!edgeB n x) = false := by
  unfold edgeB
  simp only [Bool.not_eq_false', Bool.and_eq_true, decide_eq_true_eq]
  omega
theorem check1_any (n : Int) (x : Edge) (c : Nat) (w : World) (hc : w.cell? ⟨c, 0, none⟩ = some (.int .i64 n)) :
    Calls Tryd.prog 66 #[.agg #[.int .i64 x.fr, .int .i64 x.tt], .pointer (some ⟨c, 0, none⟩)] w fun e w' => e = .returned (.bool (!edgeB n x)) ∧ Below w.heap.size w w' := by
  have hlt := cell_lt hc
  have hlt : c < w.heap.size := hlt
  obtain ⟨f, t⟩ := x
  have hne : ¬ c = w.heap.size := by omega
  by_cases h1 : f < t
  · by_cases h0 : f < 0
    · have H := Lib.hid (edge_bad n ⟨f, t⟩ (.inl h0))
      go_enter Tryd.func66, Tryd.ntmps66
      go_wp2
      go_ret
      exact ⟨by rw [H.out]; rfl, by go_grown⟩
    · by_cases h2 : n ≤ t
      · have H := Lib.hid (edge_bad n ⟨f, t⟩ (.inr (.inr (.inr h2))))
        go_enter Tryd.func66, Tryd.ntmps66
        go_wp2
        go_ret
        exact ⟨by rw [H.out]; rfl, by go_grown⟩
      · have H := Lib.hid (edge_good n ⟨f, t⟩ ⟨by show 0 ≤ f; omega, by show 0 ≤ t; omega, by show f < n; omega, by show t < n; omega⟩)
        go_enter Tryd.func66, Tryd.ntmps66
        go_wp2
        go_ret
        exact ⟨by rw [H.out]; rfl, by go_grown⟩
  · by_cases h3 : f = t
    · subst h3
      clear h1
      by_cases h0 : f < 0
      · have H := Lib.hid (edge_bad n ⟨f, f⟩ (.inl h0))
        go_enter Tryd.func66, Tryd.ntmps66
        go_wp2
        go_ret
        exact ⟨by rw [H.out]; rfl, by go_grown⟩
      · by_cases h2 : n ≤ f
        · have H := Lib.hid (edge_bad n ⟨f, f⟩ (.inr (.inr (.inr h2))))
          go_enter Tryd.func66, Tryd.ntmps66
          go_wp2
          go_ret
          exact ⟨by rw [H.out]; rfl, by go_grown⟩
        · have H := Lib.hid (edge_good n ⟨f, f⟩ ⟨by show 0 ≤ f; omega, by show 0 ≤ f; omega, by show f < n; omega, by show f < n; omega⟩)
          go_enter Tryd.func66, Tryd.ntmps66
          go_wp2
          go_ret
          exact ⟨by rw [H.out]; rfl, by go_grown⟩
    · have h4 : t < f := by omega
      clear h1 h3
      by_cases h0 : t < 0
      · have H := Lib.hid (edge_bad n ⟨f, t⟩ (.inr (.inl h0)))
        go_enter Tryd.func66, Tryd.ntmps66
        go_wp2
        go_ret
        exact ⟨by rw [H.out]; rfl, by go_grown⟩
      · by_cases h2 : n ≤ f
        · have H := Lib.hid (edge_bad n ⟨f, t⟩ (.inr (.inr (.inl h2))))
          go_enter Tryd.func66, Tryd.ntmps66
          go_wp2
          go_ret
          exact ⟨by rw [H.out]; rfl, by go_grown⟩
        · have H := Lib.hid (edge_good n ⟨f, t⟩ ⟨by show 0 ≤ f; omega, by show 0 ≤ t; omega, by show f < n; omega, by show t < n; omega⟩)
          go_enter Tryd.func66, Tryd.ntmps66
          go_wp2
          go_ret
          exact ⟨by rw [H.out]; rfl, by go_grown⟩
def idxB {α : Type} (p : α → Bool) : List α → Int
  | [] => -1
  | x :: l => if p x then 0 else if idxB p l = -1 then -1 else idxB p l + 1
theorem idxB_ge {α : Type} (p : α → Bool) : ∀ l : List α, -1 ≤ idxB p l
  | [] => Int.le_refl _
  | x :: l => by have := idxB_ge p l; unfold idxB; split; omega; split <;> omega
theorem idxB_any {α : Type} (p : α → Bool) : ∀ l : List α, decide (0 ≤ idxB p l) = l.any p
  | [] => rfl
  | x :: l => by
    have h := idxB_any p l
    have h2 := idxB_ge p l
    unfold idxB
    by_cases hx : p x = true
    · simp [hx]
    · rw [if_neg hx, List.any_cons, ← h]
      simp only [hx, Bool.false_or]
      split
      · rename_i h3; rw [h3]
      · rename_i h3; rw [Bool.eq_iff_iff]; simp; omega
theorem idxB_hit {α : Type} (p : α → Bool) : ∀ (l : List α) (k : Nat) (x : α), l[k]? = some x → p x = true → (∀ y ∈ l.take k, p y = false) → idxB p l = k
  | [], k, x, h, _, _ => by simp at h
  | y :: l, 0, x, h, hp, _ => by simp at h; subst h; simp [idxB, hp]
  | y :: l, k + 1, x, h, hp, hno => by
    have hy := hno y (by simp)
    have := idxB_hit p l k x (by simpa using h) hp (fun z hz => hno z (by simp [hz]))
    unfold idxB
    rw [if_neg (by simp [hy]), if_neg (by omega), this]; simp
theorem idxB_none {α : Type} (p : α → Bool) : ∀ (l : List α), (∀ y ∈ l, p y = false) → idxB p l = -1
  | [], _ => rfl
  | y :: l, hno => by
    have hy := hno y (by simp)
    unfold idxB
    rw [if_neg (by simp [hy]), if_pos (idxB_none p l fun z hz => hno z (by simp [hz]))]
theorem indexEdges (n : Int) (c : Nat) (v : Value) (l : List Edge) (w : World) (hc : w.cell? ⟨c, 0, none⟩ = some (.int .i64 n)) (hv : RE w v l) :
    Calls Tryd.prog 77 #[v, .func (.func 66) #[] #[.pointer (some ⟨c, 0, none⟩)]] w fun e w' => e = .returned (.int .i64 (idxB (fun x => !edgeB n x) l)) ∧ Below w.heap.size w w' := by
  obtain ⟨a, m, cap, rfl, hm, hmax, hel⟩ := hv
  have H := Lib.hid hel
  have HN := Lib.hid hm
  have HC := Lib.hid hc
  clear hel hm hc
  go_enter Tryd.func77, Tryd.ntmps77
  go_wp2
  go_loopw [8] (fun v8 wr => ∃ j : Nat, j ≤ m ∧ v8 = .int .i64 j ∧ Hid (∀ y ∈ l.take j, (!edgeB n y) = false) ∧ Hid (Below w.heap.size w wr)) (fun v8 _ => m - (intOf v8).toNat)
  case atStart => exact ⟨0, by omega, rfl, (by show ∀ y ∈ l.take 0, (!edgeB n y) = false; simp), Below.refl _ _⟩
  case round =>
    obtain ⟨j, hj, rfl, HP, HB⟩ := hrel
    by_cases hlt : j < m
    · obtain ⟨x, hx⟩ : ∃ x, l[j]? = some x := ⟨_, List.getElem?_eq_getElem (by rw [HN.out]; exact hlt)⟩
      have HX := Lib.hid hx
      clear hx
      obtain ⟨b, off, rfl, hbl, hc0, hc1⟩ := H.out j _ HX.out
      have d0 : wr.cell? ⟨b, off + j * 2, none⟩ = some (.int .i64 x.fr) := (HB.out.cell (p := ⟨b, off + j * 2, none⟩) hbl).trans hc0
      have d1 : wr.cell? ⟨b, off + j * 2 + 1, none⟩ = some (.int .i64 x.tt) := (HB.out.cell (p := ⟨b, off + j * 2 + 1, none⟩) hbl).trans hc1
      clear hc0 hc1
      go_wp2_with fail
      refine (check1_any n x c _ ((HB.out.cell (p := ⟨c, 0, none⟩) (cell_lt HC.out)).trans HC.out)).mono ?_
      rintro e w1 ⟨rfl, hb1⟩
      have HB1 : Hid (Below w.heap.size w w1) := afterCall HB.out hb1
      clear hb1
      cases hp : (!edgeB n x) with
      | true =>
        go_wp2
        go_ret
        exact ⟨by rw [idxB_hit _ l j x HX.out hp HP.out]; rfl, HB1.out⟩
      | false =>
        go_wp2
        refine ⟨⟨j + 1, by omega, by go_num, ?_, HB1⟩, by simp [intOf]; omega⟩
        show ∀ y ∈ l.take (j + 1), (!edgeB n y) = false
        rw [List.take_add_one, HX.out]
        intro y hy
        simp only [Option.toList_some, List.mem_append, List.mem_singleton] at hy
        rcases hy with hy | rfl
        · exact HP.out y hy
        · exact hp
    · obtain rfl : m = j := by omega
      have et := List.take_of_length_le (l := l) (i := m) (by rw [HN.out]; exact Nat.le_refl _)
      have HE : Hid (idxB (fun x => !edgeB n x) l = -1) := idxB_none _ l (by have := HP.out; rw [et] at this; exact this)
      clear et
      go_wp2
      go_ret
      exact ⟨by rw [HE.out]; rfl, HB.out⟩
theorem containsEdges (n : Int) (c : Nat) (v : Value) (l : List Edge) (w : World) (hc : w.cell? ⟨c, 0, none⟩ = some (.int .i64 n)) (hv : RE w v l) :
    Calls Tryd.prog 65 #[v, .func (.func 66) #[] #[.pointer (some ⟨c, 0, none⟩)]] w fun e w' => e = .returned (.bool (l.any fun x => !edgeB n x)) ∧ Below w.heap.size w w' := by
  have HV := Lib.hid hv
  have HC := Lib.hid hc
  clear hv hc
  go_enter Tryd.func65, Tryd.ntmps65
  go_wp2_with fail
  refine (indexEdges n c v l w HC.out HV.out).mono ?_
  rintro e w' ⟨rfl, hb⟩
  have HB := Lib.hid hb
  clear hb
  go_wp2
  go_ret
  exact ⟨by rw [← idxB_any]; rfl, HB.out⟩
theorem graphCheck_any (n : Int) (v : Value) (l : List Edge) (w : World) (hv : RE w v l) :
    Calls Tryd.prog 43 #[.int .i64 n, v] w fun e w' => e = .returned (.int .i64 (edgeErr (graphB n l))) ∧ Below w.heap.size w w' := by
  have HV := Lib.hid hv
  clear hv
  by_cases h0 : n < 0
  · have H : Hid (graphB n l = false) := by show graphB n l = false; simp [graphB]; omega
    go_enter Tryd.func43, Tryd.ntmps43
    go_wp2
    go_ret
    exact ⟨by rw [H.out]; rfl, by go_grown⟩
  · by_cases h1 : 100000 < n
    · have H : Hid (graphB n l = false) := by show graphB n l = false; simp [graphB]; omega
      go_enter Tryd.func43, Tryd.ntmps43
      go_wp2
      go_ret
      exact ⟨by rw [H.out]; rfl, by go_grown⟩
    · have H : Hid (graphB n l = !l.any fun x => !edgeB n x) := by
        show graphB n l = _
        have : (0 : Int) ≤ n := by omega
        have h2 : n ≤ 100000 := by omega
        rw [← List.all_eq_not_any_not]
        simp [graphB, this, h2]
      go_enter Tryd.func43, Tryd.ntmps43
      go_wp2_with fail
      refine (containsEdges n w.heap.size v l _ (by simp) (HV.out.below (by go_grown))).mono ?_
      rintro e w' ⟨rfl, hb⟩
      have HB : Hid (Below w.heap.size w w') := afterCall (by go_grown) hb
      clear hb
      cases hq : l.any fun x => !edgeB n x with
      | true =>
        go_wp2
        go_ret
        exact ⟨by rw [H.out, hq]; rfl, HB.out⟩
      | false =>
        go_wp2
        go_ret
        exact ⟨by rw [H.out, hq]; rfl, HB.out⟩
theorem refCheck_any (n : Int) (v : Value) (l : List Edge) (w : World) (hv : RE w v l) :
    Calls Tryd.prog 36 #[.int .i64 n, v] w fun e w' => e = .returned (.int .i64 (edgeErr (graphB n l))) ∧ Below w.heap.size w w' := by
  obtain ⟨a, m, cap, rfl, hm, hmax, hel⟩ := hv
  have H := Lib.hid hel
  have HN := Lib.hid hm
  clear hel hm
  by_cases h0 : n < 0
  · have H : Hid (graphB n l = false) := by show graphB n l = false; simp [graphB]; omega
    go_enter Tryd.func36, Tryd.ntmps36
    go_wp2
    go_ret
    exact ⟨by rw [H.out]; rfl, by go_grown⟩
  · by_cases h1 : 100000 < n
    · have H : Hid (graphB n l = false) := by show graphB n l = false; simp [graphB]; omega
      go_enter Tryd.func36, Tryd.ntmps36
      go_wp2
      go_ret
      exact ⟨by rw [H.out]; rfl, by go_grown⟩
    · have HG : Hid (graphB n l = l.all (edgeB n)) := by
        show graphB n l = _
        have : (0 : Int) ≤ n := by omega
        have h2 : n ≤ 100000 := by omega
        simp [graphB, this, h2]
      go_enter Tryd.func36, Tryd.ntmps36
      go_wp2
      go_loopw [15] (fun v15 wr => ∃ j : Nat, j ≤ m ∧ v15 = .int .i64 j ∧ Hid ((l.take j).all (edgeB n) = true) ∧ Hid (Below w.heap.size w wr)) (fun v15 _ => m - (intOf v15).toNat)
      case atStart => exact ⟨0, by omega, rfl, rfl, Below.refl _ _⟩
      case round =>
        obtain ⟨j, hj, rfl, HP, HB⟩ := hrel
        by_cases hlt : j < m
        · obtain ⟨x, hx⟩ : ∃ x, l[j]? = some x := ⟨_, List.getElem?_eq_getElem (by rw [HN.out]; exact hlt)⟩
          have HX := Lib.hid hx
          clear hx
          obtain ⟨b, off, rfl, hbl, hc0, hc1⟩ := H.out j _ HX.out
          have d0 : wr.cell? ⟨b, off + j * 2, none⟩ = some (.int .i64 x.fr) := (HB.out.cell (p := ⟨b, off + j * 2, none⟩) hbl).trans hc0
          have d1 : wr.cell? ⟨b, off + j * 2 + 1, none⟩ = some (.int .i64 x.tt) := (HB.out.cell (p := ⟨b, off + j * 2 + 1, none⟩) hbl).trans hc1
          clear hc0 hc1
          have HB2 : Hid (∀ X, Below w.heap.size w (wr.alloc X)) := fun X => HB.out.alloc HB.out.size X
          by_cases hx : 0 ≤ x.fr ∧ x.fr < n ∧ 0 ≤ x.tt ∧ x.tt < n
          · obtain ⟨x1, x2, x3, x4⟩ := hx
            have HNX : Hid ((l.take (j + 1)).all (edgeB n) = true) := by
              show (l.take (j + 1)).all (edgeB n) = true
              rw [List.take_add_one, HX.out, List.all_append, HP.out]
              simp [edgeB, x1, x2, x3, x4]
            go_wp2
            exact ⟨⟨j + 1, by omega, by go_num, HNX, HB2.out _⟩, by simp [intOf]; omega⟩
          · have HNO : Hid (graphB n l = false) := by
              show graphB n l = false
              rw [HG.out, Bool.eq_false_iff]
              intro hall
              have := List.all_eq_true.1 hall x (List.mem_of_getElem? HX.out)
              simp only [edgeB, Bool.and_eq_true, decide_eq_true_eq] at this
              exact hx ⟨this.1.1.1, this.1.1.2, this.1.2, this.2⟩
            by_cases x1 : x.fr < 0
            · clear hx
              go_wp2
              go_ret
              exact ⟨by rw [HNO.out]; rfl, HB2.out _⟩
            · by_cases x2 : n ≤ x.fr
              · clear hx
                go_wp2
                go_ret
                exact ⟨by rw [HNO.out]; rfl, HB2.out _⟩
              · by_cases x3 : x.tt < 0
                · clear hx
                  go_wp2
                  go_ret
                  exact ⟨by rw [HNO.out]; rfl, HB2.out _⟩
                · have x4 : n ≤ x.tt := by omega
                  clear hx
                  go_wp2
                  go_ret
                  exact ⟨by rw [HNO.out]; rfl, HB2.out _⟩
        · obtain rfl : m = j := by omega
          have HE : Hid (graphB n l = true) := by
            show graphB n l = true
            have h := HP.out
            rw [List.take_of_length_le (by rw [HN.out]; exact Nat.le_refl _)] at h
            rw [HG.out, h]
          go_wp2
          go_ret
          exact ⟨by rw [HE.out]; rfl, HB.out⟩
end Go.Proofs.YtnmfbaahabcocaaDoor
end
