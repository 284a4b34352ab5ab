/- ShowSizes: show.Size is the reference's. The walk of the law, for every program that reads as one. -/
import Derived.Test.YtbmbmcdaabhgnaaSizes
import Derived.Deep.RegionWith
import Derived.WalkSpells
import Derived.Handy
namespace Go.Proofs.Ytbmbmcdaabhgnaa
open Go.RowKit

def oneClass : Program := ⟨[⟨⟨#[]⟩, ⟨#[]⟩, [], []⟩], []⟩

theorem rsl_nil {α : Type} (sz : Nat) (R : List Value → α → Prop) (w : World) (I : Nat → Prop) : RSl sz R w I (.slice none 0 0) ([] : List α) :=
  ⟨none, 0, 0, rfl, rfl, Nat.le_refl _, by unfold maxLen; omega, fun i x h => by simp at h⟩

theorem rOne {w : World} {b : Nat} (hc : cellsAt w b 0 [.string ⟨#[]⟩, .string ⟨#[]⟩, .slice none 0 0, .slice none 0 0]) : RProgram 0 w (· < w.heap.size) (.agg #[.slice (some ⟨b, 0, none⟩) 1 1, .slice none 0 0]) oneClass := by
  refine ⟨_, _, rfl, ⟨_, 1, 1, rfl, rfl, Nat.le_refl _, by unfold maxLen; omega, fun i x h => ?_⟩, rsl_nil _ _ _ _⟩
  cases i with
  | succ i => simp [oneClass] at h
  | zero =>
    simp [oneClass] at h
    subst h
    exact ⟨b, 0, _, rfl, cell_lt hc.1, hc, _, _, rfl, by decide, by decide, rsl_nil _ _ _ _, rsl_nil _ _ _ _⟩

theorem bcell {W w1 : World} (hb : Below W.heap.size W w1) : ∀ b o, b < W.heap.size → w1.cell? ⟨b, o, none⟩ = W.cell? ⟨b, o, none⟩ :=
  fun b o h => hb.cell (p := ⟨b, o, none⟩) h

theorem sizeP_one : sizeP oneClass = 1 := by simp [sizeP, oneClass, sizeCs, sizeMs, sizeSs]

theorem next {w1 w2 : World} {b o : Nat} {v : Value} (hb : Below w1.heap.size w1 w2) (h : w1.cell? ⟨b, o, none⟩ = some v) : w2.cell? ⟨b, o, none⟩ = some v :=
  (hb.cell (p := ⟨b, o, none⟩) (cell_lt h)).trans h
theorem afterCall {W W1 w1 : World} (h : Below W.heap.size W W1) (hb : Below W1.heap.size W1 w1) : Hid (Below W.heap.size W w1) := h.trans (hb.mono h.size)
theorem nextB {W w1 w2 : World} (hb : Below w1.heap.size w1 w2) (h : Hid (Below W.heap.size W w1)) : Hid (Below W.heap.size W w2) :=
  h.out.trans (hb.mono h.out.size)

theorem size_one {W : World} {b : Nat} (hc : cellsAt W b 0 [.string ⟨#[]⟩, .string ⟨#[]⟩, .slice none 0 0, .slice none 0 0]) :
    Calls Try.prog 6 #[.agg #[.slice (some ⟨b, 0, none⟩) 1 1, .slice none 0 0]] W fun e w' => e = .returned (.int .i64 1) ∧ Below W.heap.size W w' :=
  (size_any 0 W _ _ (rOne hc)).mono fun e w' ⟨he, hb⟩ => ⟨by rw [he, sizeP_one]; simp [wrap64], hb⟩

theorem size_in {W0 W : World} {d : Nat} {v : Value} {p : Program} (hp : RProgram d W0 (· < W0.heap.size) v p) (hb : Hid (Below W0.heap.size W0 W)) :
    Calls Try.prog 6 #[v] W fun e w' => e = .returned (.int .i64 (wrap64 (sizeP p))) ∧ Below W.heap.size W w' :=
  size_any d W _ _ (hp.mono (fun _ h => Nat.lt_of_lt_of_le h hb.out.size) (fun b h => hb.out.block b h))
theorem refSize_in {W0 W : World} {d : Nat} {v : Value} {p : Program} (hp : RProgram d W0 (· < W0.heap.size) v p) (hb : Hid (Below W0.heap.size W0 W)) :
    Calls Try.prog 7 #[v] W fun e w' => e = .returned (.int .i64 (wrap64 (sizeP p))) ∧ Below W.heap.size W w' :=
  refSize_any d W _ _ (hp.mono (fun _ h => Nat.lt_of_lt_of_le h hb.out.size) (fun b h => hb.out.block b h))

set_option maxHeartbeats 2000000 in
theorem showSizes_walk (d : Nat) (w : World) (v : Value) (p : Program) (hp : RProgram d w (· < w.heap.size) v p) :
    Calls Try.prog 3 #[v] w fun e w' => e = .returned (.bool true) ∧ Below w.heap.size w w' := by
  have HP := Lib.hid hp
  obtain ⟨cv, mv, rfl, hC, hM⟩ := hp
  obtain ⟨ca, cn, ccap, rfl⟩ := RSl.shape hC
  obtain ⟨ma, mn, mcap, rfl⟩ := RSl.shape hM
  clear hC hM
  go_enter Try.func3, Try.ntmps3
  go_wp2
  go_region_with (first
    | (go_at_call 6
       (with_reducible refine (size_one ?_).mono ?_)
       · go_loud (simp [cellsAt]; done)
       rintro e w1 ⟨rfl, hb1⟩
       have HB1 : Hid (Below w.heap.size w w1) := afterCall (by go_grown) hb1
       have k0 : w1.cell? ⟨w.heap.size, 0, none⟩ = some (.slice ca cn ccap) := next hb1 (by simp)
       have k1 : w1.cell? ⟨w.heap.size, 1, none⟩ = some (.slice ma mn mcap) := next hb1 (by simp)
       clear hb1)
    | (go_at_call 6
       (with_reducible refine (size_in HP.out (by assumption)).mono ?_)
       rintro e w2 ⟨rfl, hb2⟩
       have HB2 := nextB hb2 (by assumption)
       have k2 := next (o := 0) hb2 (by assumption)
       have k3 := next (o := 1) hb2 (by assumption)
       clear hb2)
    | (go_at_call 7
       (with_reducible refine (refSize_in HP.out (by assumption)).mono ?_)
       rintro e w2 ⟨rfl, hb2⟩
       have HB2 := nextB hb2 (by assumption)
       have k2 := next (o := 0) hb2 (by assumption)
       have k3 := next (o := 1) hb2 (by assumption)
       clear hb2))
  all_goals (go_wp2; go_ret; exact ⟨rfl, HB2.out⟩)
end Go.Proofs.Ytbmbmcdaabhgnaa
