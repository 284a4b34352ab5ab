/- Joined by my own program, in build order: Meet. -/
import Derived.Test.YtnmfbaahabcocaaDoorY13
import Derived.BigQuiet
import Derived.Deep.LoopGhost
import Derived.WalkMore
set_option linter.unusedVariables false
set_option linter.unusedSimpArgs false
section
namespace Go.Proofs.YtnmfbaahabcocaaDoor
open Go.RowKit
def uv : Option Nat → Value
  | none => .int .i64 (-1)
  | some p => .int .i64 (p : Int)
structure MeetInv (u : Nat → Option Nat) (s a0 b0 a b : Nat) : Prop where
  sa : (u a).isSome = true
  sb : (u b).isSome = true
  aa : Anc u s a0 a
  bb : Anc u s b0 b
  all : ∀ d, Anc u s a0 d → Anc u s b0 d → Anc u s a d ∧ Anc u s b d
section
variable {E : List (Nat × Nat)} {s : Nat} {nodes : List Nat} {num : Nat → Nat} {u : Nat → Option Nat} {a0 b0 a b : Nat}
theorem MeetInv.swap (h : MeetInv u s a0 b0 a b) : MeetInv u s b0 a0 b a := ⟨h.sb, h.sa, h.bb, h.aa, fun d h1 h2 => (h.all d h2 h1).symm⟩
theorem MeetInv.up (P : Post E s nodes num) (S : St E s nodes num u) (h : MeetInv u s a0 b0 a b) (hlt : num a < num b) : ∃ p, u a = some p ∧ num a < num p ∧ p ∈ nodes ∧ MeetInv u s a0 b0 p b := by
  have hbn := S.mem P h.sb
  have has : a ≠ s := by
    rintro rfl
    by_cases e : b = a
    · subst e; omega
    · have := P.below hbn e
      omega
  obtain ⟨p, hp⟩ := Option.isSome_iff_exists.1 h.sa
  obtain ⟨_, h2, h3, h4⟩ := S.tree a p has hp
  refine ⟨p, hp, h3, h2, h4, h.sb, h.aa.trans (.up has hp (.refl _)), h.bb, fun d h5 h6 => ?_⟩
  obtain ⟨h7, h8⟩ := h.all d h5 h6
  refine ⟨?_, h8⟩
  have hne : a ≠ d := by
    rintro rfl
    have := (Anc.num_le S h8).1
    omega
  obtain ⟨_, p', hp', h9⟩ := h7.next hne
  rw [hp] at hp'
  cases hp'
  exact h9
end
set_option maxHeartbeats 4000000 in
set_option maxRecDepth 100000 in
theorem meet_any (w : World) (n s pn pu nb ub : Nat) {E : List (Nat × Nat)} {nodes : List Nat} {num : Nat → Nat} {u : Nat → Option Nat} (P : Post E s nodes num) (S : St E s nodes num u) (hlt : ∀ i ∈ nodes, i < n)
    (hp : w.cell? ⟨pn, 0, none⟩ = some (.slice (some ⟨nb, 0, none⟩) n n)) (hq : w.cell? ⟨pu, 0, none⟩ = some (.slice (some ⟨ub, 0, none⟩) n n)) (hnum : w.rowIs nb 3 n (fun i => iv (num i))) (hup : w.rowIs ub 3 n (fun i => uv (u i)))
    (a0 b0 : Nat) (ha : (u a0).isSome = true) (hb : (u b0).isSome = true) :
    Calls Tryd.prog 53 #[.int .i64 a0, .int .i64 b0, .pointer (some ⟨pn, 0, none⟩), .pointer (some ⟨pu, 0, none⟩)] w fun e w' => ∃ c : Nat, e = .returned (.int .i64 c) ∧ (u c).isSome = true ∧ Anc u s a0 c ∧ Anc u s b0 c ∧ (∀ d, Anc u s a0 d → Anc u s b0 d → Anc u s c d) ∧ Below w.heap.size w w' := by
  have HP := Lib.hid P
  have HS := Lib.hid S
  have HLT := Lib.hid hlt
  have HNUM := Lib.hid hnum
  have HUP := Lib.hid hup
  have HI : Hid (MeetInv u s a0 b0 a0 b0) := ⟨ha, hb, .refl _, .refl _, fun d h1 h2 => ⟨h1, h2⟩⟩
  have l1 := cell_lt hp
  have l2 := cell_lt hq
  have l1 : pn < w.heap.size := l1
  have l2 : pu < w.heap.size := l2
  clear P S hlt hnum hup ha hb
  go_enter Tryd.func53, Tryd.ntmps53
  go_wp2
  go_step3
  go_wp2
  go_step3
  go_wp2
  have hna : num a0 ≤ nodes.length := Nat.le_of_lt (HP.out.lt (HS.out.mem HP.out HI.out.sa))
  have hnb : num b0 ≤ nodes.length := Nat.le_of_lt (HP.out.lt (HS.out.mem HP.out HI.out.sb))
  have HG0 : Hid (2 * nodes.length - num a0 - num b0 + num a0 + num b0 = 2 * nodes.length) := by show _ = _; omega
  clear hna hnb
  go_loopg [0, 1] (2 * nodes.length - num a0 - num b0) (fun gk v0 v1 wr => ∃ a b : Nat, v0 = .int .i64 a ∧ v1 = .int .i64 b ∧ Hid (gk + num a + num b = 2 * nodes.length) ∧ Hid (MeetInv u s a0 b0 a b) ∧ Hid (Below w.heap.size w wr))
  case atStart => exact ⟨a0, b0, rfl, rfl, HG0, HI, Below.refl _ _⟩
  case round =>
    clear HG0 HI
    obtain ⟨a, b, rfl, rfl, HG, HI, HB⟩ := hrel
    by_cases hab : a = b
    · subst hab
      go_wp2
      try rw [Exit.noGoto_ret]
      go_ret
      exact ⟨a, rfl, HI.out.sa, HI.out.aa, HI.out.bb, fun d h1 h2 => (HI.out.all d h1 h2).1, HB.out⟩
    · have hne : ((a : Int) != (b : Int)) = true := by simp; omega
      have han := HS.out.mem HP.out HI.out.sa
      have hbn := HS.out.mem HP.out HI.out.sb
      have hal := HLT.out a han
      have hbl := HLT.out b hbn
      have d0 := (HB.out.cell (p := ⟨pn, 0, none⟩) l1).trans hp
      have d1 := (HB.out.cell (p := ⟨pu, 0, none⟩) l2).trans hq
      have d2 := (HB.out.cell (p := ⟨nb, a, none⟩) HNUM.out.lt).trans (HNUM.out.cell hal)
      have d3 := (HB.out.cell (p := ⟨nb, b, none⟩) HNUM.out.lt).trans (HNUM.out.cell hbl)
      have d4 := (HB.out.cell (p := ⟨ub, a, none⟩) HUP.out.lt).trans (HUP.out.cell hal)
      have d5 := (HB.out.cell (p := ⟨ub, b, none⟩) HUP.out.lt).trans (HUP.out.cell hbl)
      simp only [iv] at d2 d3
      have hna : num a < nodes.length := HP.out.lt han
      have hnb : num b < nodes.length := HP.out.lt hbn
      have HAN := Lib.hid han
      have HBN := Lib.hid hbn
      have HAB := Lib.hid hab
      clear han hbn hab
      by_cases hlt : num a < num b
      · obtain ⟨p, hup, hnp, hpn, HI2⟩ := HI.out.up HP.out HS.out hlt
        rw [hup] at d4
        simp only [uv] at d4
        have HI2 := Lib.hid HI2
        have HNP := Lib.hid hnp
        have HPL := Lib.hid (HP.out.lt hpn)
        clear hup hnp hpn
        go_wp2
        go_loopg [0] 0 (fun _ v0 wx => v0 = .int .i64 a ∧ wx = wr)
        case atStart => exact ⟨rfl, rfl⟩
        case round =>
          obtain ⟨rfl, rfl⟩ := hrel
          go_wp2
          go_quiet (fail)
          go_wp2
          go_roundg (2 * nodes.length - num p - num b)
          case measure => have := HG.out; have := HNP.out; have := HPL.out; omega
          case rel => exact ⟨p, b, rfl, rfl, by show _ = _; have := HPL.out; omega, HI2, bdrewN HB.out _⟩
      · have hlt2 : num b < num a := by
          rcases Nat.lt_or_ge (num b) (num a) with h | h
          · exact h
          · exact absurd (HP.out.inj HAN.out HBN.out (by omega)) HAB.out
        obtain ⟨p, hup, hnp, hpn, HI2⟩ := HI.out.swap.up HP.out HS.out hlt2
        rw [hup] at d5
        simp only [uv] at d5
        have HI2 := Lib.hid HI2.swap
        have HNP := Lib.hid hnp
        have HPL := Lib.hid (HP.out.lt hpn)
        clear hup hnp hpn
        go_wp2
        go_loopg [0] 0 (fun _ v0 wx => v0 = .int .i64 a ∧ wx = wr)
        case atStart => exact ⟨rfl, rfl⟩
        case round =>
          obtain ⟨rfl, rfl⟩ := hrel
          go_wp2
          go_quiet (fail)
          go_wp2
          go_roundg (2 * nodes.length - num a - num p)
          case measure => have := HG.out; have := HNP.out; have := HPL.out; omega
          case rel => exact ⟨a, p, rfl, rfl, by show _ = _; have := HPL.out; omega, HI2, bdrewN HB.out _⟩
end Go.Proofs.YtnmfbaahabcocaaDoor
end
