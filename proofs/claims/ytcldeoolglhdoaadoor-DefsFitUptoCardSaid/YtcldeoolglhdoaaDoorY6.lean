/- Joined by my own program, in build order: DP. -/
import Derived.Test.YtcldeoolglhdoaaDoorY4
set_option linter.unusedVariables false
set_option linter.unusedSimpArgs false
section
set_option linter.unusedVariables false
namespace Go.Proofs.YtcldeoolglhdoaaDoor
namespace D18
open C17
def hasD (k : Int) : Bool := [1, 2, 3, 4, 5, 6, 7, 9, 11, 12, 13, 15].contains k
def hasA (k : Int) : Bool := [3, 4, 6, 7, 8, 9, 10, 11, 12, 14, 15, 16, 18].contains k
def hasB (k : Int) : Bool := [4, 8, 9, 10].contains k
def hasC (k : Int) : Bool := decide (k = 10)
def hasR (k : Int) : Bool := decide (k = 12)
def dfI (x : Ins) : Int := if hasD x.kind = true then x.dst else -1
def usI (x : Ins) : List Int := (if hasA x.kind = true then [x.a] else []) ++ (if hasB x.kind = true then [x.b] else []) ++ (if hasC x.kind = true then [x.c] else []) ++ (if hasR x.kind = true then x.args else [])
def insB (n R : Int) (code : List Ins) (i : Nat) : Bool := !(nx code i).any (outI n) && match code[i]? with
  | none => true
  | some x => !(usI x).any (outI R) && !(hasD x.kind && outI R x.dst)
def okD (code : List Ins) (R : Int) : Bool := decide (1 ≤ code.length) && decide (code.length ≤ 2000) && decide (0 ≤ R) && decide (R ≤ 10000) && (List.range code.length).all (insB code.length R code)
section
variable (code : List Ins) (R : Nat)
def dfN (i : Nat) : Option Nat := match code[i]? with
  | some x => if hasD x.kind = true then some x.dst.toNat else none
  | none => none
def nxN (i : Nat) : List Nat := (nx code i).map Int.toNat
def usN (i : Nat) : List Nat := match code[i]? with
  | some x => (usI x).map Int.toNat
  | none => []
def rgD (d : Nat) : Option Nat := if d < R then some (R - 1 - d) else dfN code (d - R)
inductive Cm (d : Nat) : Nat → Prop
  | entry : d < R → Cm d 0
  | next {k : Nat} : R ≤ d → k ∈ nxN code (d - R) → Cm d k
  | step {i k : Nat} : Cm d i → dfN code i ≠ rgD code R d → k ∈ nxN code i → Cm d k
def EdP (d j : Nat) : Prop := ∃ r, rgD code R d = some r ∧ r ∈ usN code j ∧ Cm code R d j
open Classical in
noncomputable def edD : List (Int × Int) := (List.range (R + code.length)).flatMap fun d => ((List.range code.length).filter fun j => decide (EdP code R d j)).map fun j : Nat => ((d : Int) - (R : Int), (j : Int))
def outD (In : Nat → Nat → Bool) (i d : Nat) : Bool := match dfN code i with
  | none => In i d
  | some r => In i d && !decide (rgD code R d = some r) || decide (d = R + i)
end
section
variable {code : List Ins} {R : Nat}
theorem okD_len {z : Int} (h : okD code z = true) : 1 ≤ code.length ∧ code.length ≤ 2000 ∧ 0 ≤ z ∧ z ≤ 10000 := by
  unfold okD at h
  simp only [Bool.and_eq_true, decide_eq_true_eq] at h
  omega
theorem okD_ins {z : Int} (h : okD code z = true) {i : Nat} (hi : i < code.length) : insB code.length z code i = true := by
  unfold okD at h
  simp only [Bool.and_eq_true] at h
  exact List.all_eq_true.1 h.2 i (List.mem_range.2 hi)
theorem outI_false {n k : Int} (h : outI n k = false) : 0 ≤ k ∧ k < n := by
  unfold outI at h
  simp only [Bool.or_eq_false_iff, decide_eq_false_iff_not] at h
  omega
theorem any_false {l : List Int} {n : Int} (h : l.any (outI n) = false) {k : Int} (hk : k ∈ l) : 0 ≤ k ∧ k < n := by
  rw [List.any_eq_false] at h
  exact outI_false (by simpa using h k hk)
theorem okD_nx {z : Int} (h : okD code z = true) {i : Nat} (hi : i < code.length) {k : Int} (hk : k ∈ nx code i) : 0 ≤ k ∧ k < code.length := by
  have := okD_ins h hi
  unfold insB at this
  simp only [Bool.and_eq_true, Bool.not_eq_true'] at this
  exact any_false this.1 hk
theorem okD_us {z : Int} (h : okD code z = true) {i : Nat} {x : Ins} (hx : code[i]? = some x) {k : Int} (hk : k ∈ usI x) : 0 ≤ k ∧ k < z := by
  have := okD_ins h (List.getElem?_eq_some_iff.1 hx).1
  unfold insB at this
  rw [hx] at this
  simp only [Bool.and_eq_true, Bool.not_eq_true'] at this
  exact any_false this.2.1 hk
theorem okD_df {z : Int} (h : okD code z = true) {i : Nat} {x : Ins} (hx : code[i]? = some x) (hk : hasD x.kind = true) : 0 ≤ x.dst ∧ x.dst < z := by
  have := okD_ins h (List.getElem?_eq_some_iff.1 hx).1
  unfold insB at this
  rw [hx] at this
  simp only [Bool.and_eq_true, Bool.not_eq_true', hk, Bool.true_and] at this
  exact outI_false this.2.2
theorem nxN_lt {z : Int} (h : okD code z = true) {i k : Nat} (hi : i < code.length) (hk : k ∈ nxN code i) : k < code.length := by
  obtain ⟨a, ha, rfl⟩ := List.mem_map.1 hk
  have := okD_nx h hi ha
  omega
theorem dfN_lt {z : Int} (h : okD code z = true) {i r : Nat} (hk : dfN code i = some r) : (r : Int) < z ∧ i < code.length := by
  unfold dfN at hk
  split at hk
  · rename_i x hx
    split at hk
    · rename_i hd
      cases hk
      have := okD_df h hx hd
      exact ⟨by omega, (List.getElem?_eq_some_iff.1 hx).1⟩
    · cases hk
  · cases hk
theorem rgD_lt (h : okD code R = true) {d r : Nat} (hr : rgD code R d = some r) : r < R ∧ d < R + code.length := by
  unfold rgD at hr
  split at hr
  · cases hr; omega
  · have := dfN_lt h hr; omega
theorem rgD_ge {i : Nat} : rgD code R (R + i) = dfN code i := by
  unfold rgD
  rw [if_neg (by omega), Nat.add_sub_cancel_left]
theorem Cm.lt (h : okD code R = true) {d j : Nat} (hd : d < R + code.length) (hc : Cm code R d j) : j < code.length := by
  have hn := okD_len h
  induction hc with
  | entry _ => omega
  | next h1 h2 => exact nxN_lt h (by omega) h2
  | step _ _ h2 ih => exact nxN_lt h ih h2
theorem out_sound {In : Nat → Nat → Bool} (hs : ∀ j d, In j d = true → Cm code R d j ∧ (rgD code R d).isSome = true) {i k d : Nat} (hk : k ∈ nxN code i) (ho : outD code R In i d = true) : Cm code R d k ∧ (rgD code R d).isSome = true := by
  unfold outD at ho
  split at ho
  · rename_i hn
    obtain ⟨h1, h2⟩ := hs i d ho
    exact ⟨.step h1 (fun e => by rw [hn] at e; rw [← e] at h2; cases h2) hk, h2⟩
  · rename_i r hr
    simp only [Bool.or_eq_true, Bool.and_eq_true, Bool.not_eq_true', decide_eq_false_iff_not, decide_eq_true_eq] at ho
    rcases ho with ⟨h1, h2⟩ | rfl
    · obtain ⟨h3, h4⟩ := hs i d h1
      exact ⟨.step h3 (fun e => h2 (by rw [← e, hr])) hk, h4⟩
    · have e : rgD code R (R + i) = some r := rgD_ge.trans hr
      exact ⟨.next (by omega) (by rw [Nat.add_sub_cancel_left]; exact hk), by rw [e]; rfl⟩
theorem all_there {In : Nat → Nat → Bool} (h0 : ∀ d, d < R → In 0 d = true) (hc : ∀ i k d, i < code.length → k ∈ nxN code i → outD code R In i d = true → In k d = true) {d j : Nat} (hd : (rgD code R d).isSome = true) (h : Cm code R d j) (ok : okD code R = true) : In j d = true := by
  have hdl : d < R + code.length := by
    obtain ⟨r, hr⟩ := Option.isSome_iff_exists.1 hd
    exact (rgD_lt ok hr).2
  induction h with
  | entry h => exact h0 d h
  | @next k h1 h2 =>
    obtain ⟨i, rfl⟩ : ∃ i, d = R + i := ⟨d - R, by omega⟩
    rw [Nat.add_sub_cancel_left] at h2
    refine hc i k _ (by omega) h2 ?_
    rw [rgD_ge] at hd
    obtain ⟨r, hr⟩ := Option.isSome_iff_exists.1 hd
    unfold outD
    rw [hr]
    simp
  | @step i k h1 h2 h3 ih =>
    refine hc i k d (h1.lt ok hdl) h3 ?_
    unfold outD
    split
    · exact ih
    · rename_i r hr
      rw [ih]
      rw [hr] at h2
      have : ¬ rgD code R d = some r := fun e => h2 e.symm
      simp [this]
theorem mem_edD {a b : Int} : (a, b) ∈ edD code R ↔ ∃ d j : Nat, a = (d : Int) - R ∧ b = j ∧ d < R + code.length ∧ j < code.length ∧ EdP code R d j := by
  unfold edD
  rw [List.mem_flatMap]
  constructor
  · rintro ⟨d, hd, h⟩
    obtain ⟨j, hj, e⟩ := List.mem_map.1 h
    simp only [Prod.mk.injEq] at e
    obtain ⟨rfl, rfl⟩ := e
    have hj := List.mem_filter.1 hj
    exact ⟨d, j, rfl, rfl, List.mem_range.1 hd, List.mem_range.1 hj.1, by simpa using hj.2⟩
  · rintro ⟨d, j, rfl, rfl, h1, h2, h3⟩
    exact ⟨d, List.mem_range.2 h1, List.mem_map.2 ⟨j, List.mem_filter.2 ⟨List.mem_range.2 h2, by simpa using h3⟩, rfl⟩⟩
def ltZ (x y : Int × Int) : Prop := x.1 < y.1 ∨ (x.1 = y.1 ∧ x.2 < y.2)
theorem edD_rising : (edD code R).Pairwise ltZ := by
  unfold edD
  rw [List.pairwise_flatMap]
  refine ⟨fun a _ => ?_, List.pairwise_lt_range.imp fun {a b} hab p hp q hq => ?_⟩
  · rw [List.pairwise_map]
    exact (List.pairwise_lt_range.filter _).imp fun h => Or.inr ⟨rfl, by simp only; omega⟩
  · obtain ⟨x, -, rfl⟩ := List.mem_map.1 hp
    obtain ⟨y, -, rfl⟩ := List.mem_map.1 hq
    exact .inl (by simp only; omega)
theorem last_step {la : Nat → Nat} {i k : Nat} (h : ∀ r, r < R → rgD code R (la r) = some r ∧ Cm code R (la r) i) (hk : k ∈ nxN code i) (r : Nat) (hr : r < R) : rgD code R (if dfN code i = some r then R + i else la r) = some r ∧ Cm code R (if dfN code i = some r then R + i else la r) k := by
  split
  · rename_i e
    exact ⟨rgD_ge.trans e, .next (by omega) (by rw [Nat.add_sub_cancel_left]; exact hk)⟩
  · rename_i e
    obtain ⟨h1, h2⟩ := h r hr
    exact ⟨h1, .step h2 (by rw [h1]; exact e) hk⟩
end
end D18
end Go.Proofs.YtcldeoolglhdoaaDoor
end
