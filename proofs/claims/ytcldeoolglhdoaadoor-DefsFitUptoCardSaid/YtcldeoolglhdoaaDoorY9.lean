/- Joined by my own program, in build order: SortC. -/
import Derived.Test.YtcldeoolglhdoaaDoorY8
import Derived.Test.YtcldeoolglhdoaaDoorChecked
import Derived.Shelf.SlSortCmp.QuietGrown
import Derived.WalkKit
import Derived.Handy
import Derived.StillTailTactics
set_option linter.unusedVariables false
set_option linter.unusedSimpArgs false
section
set_option linter.unusedVariables false
set_option linter.unusedSimpArgs false
namespace Go.Proofs.YtcldeoolglhdoaaDoor
open Go.RowKit
theorem or_any (b off c : Nat) (x y : Int) (w : World) (h0 : w.cell? ⟨b, off, none⟩ = some (.int .i64 x)) (h1 : w.cell? ⟨b, off + 1, none⟩ = some (.int .i64 y)) :
    Calls Tryd.prog 43 #[.slice (some ⟨b, off, none⟩) 2 c] w fun e w' => e = .returned (.int .i64 (if x = 0 then y else x)) ∧ w = w' := by
  by_cases hx : x = 0
  · subst hx
    by_cases hy : y = 0
    · subst hy
      go_enter Tryd.func43, Tryd.ntmps43
      go_wp2
      refine wp_loop_rounds 3 ?_
      rw [rounds_succ]
      go_wp2
      rw [rounds_succ]
      go_wp2
      rw [rounds_succ]
      go_wp2
      go_ret
      exact ⟨rfl, rfl⟩
    · have hy' : (y != 0) = true := by simp [hy]
      go_enter Tryd.func43, Tryd.ntmps43
      go_wp2
      refine wp_loop_rounds 3 ?_
      rw [rounds_succ]
      go_wp2
      rw [rounds_succ]
      go_wp2
      all_goals first | (go_ret; exact ⟨rfl, rfl⟩) | skip
  · have hx' : (x != 0) = true := by simp [hx]
    go_enter Tryd.func43, Tryd.ntmps43
    go_wp2
    refine wp_loop_rounds 3 ?_
    rw [rounds_succ]
    go_wp2
    all_goals first | (go_ret; exact ⟨rfl, rfl⟩) | skip
def cmpE (p q : Int × Int) : Int := if Lib.compareInt p.1 q.1 = 0 then Lib.compareInt p.2 q.2 else Lib.compareInt p.1 q.1
set_option maxHeartbeats 2000000 in
set_option maxRecDepth 100000 in
theorem cmpE_any (a b c d : Int) (W : World) : Calls Tryd.prog 42 #[.agg #[.int .i64 a, .int .i64 b], .agg #[.int .i64 c, .int .i64 d]] W fun e w' => e = .returned (.int .i64 (cmpE (a, b) (c, d))) ∧ ∃ q os', w' = Sort.grow (W.drewN q) os' := by
  have hc := fun W' => Tryd.cmp_Compare_int a c W'
  have hd := fun W' => Tryd.cmp_Compare_int b d W'
  obtain ⟨r, hr⟩ : ∃ r, r = Lib.compareInt a c := ⟨_, rfl⟩
  obtain ⟨s, hs⟩ : ∃ s, s = Lib.compareInt b d := ⟨_, rfl⟩
  have he : cmpE (a, b) (c, d) = if r = 0 then s else r := by rw [hr, hs]; rfl
  rw [he]
  obtain ⟨z, hzz⟩ : ∃ z, z = if r = 0 then s else r := ⟨_, rfl⟩
  rw [← hzz]
  rw [← hr] at hc
  rw [← hs] at hd
  clear hr hs he
  go_enter Tryd.func42, Tryd.ntmps42
  go_wp2_with fail
  refine wp_region_still_tail 10 (by kernel_rfl) (by kernel_rfl) ?_
  generalize hV : ({ ((W.alloc (.cells #[.int .i64 a, .int .i64 b] 37)).alloc (.cells #[.int .i64 c, .int .i64 d] 37)) with drawn := _ } : World) = V
  have hh : V.heap = (W.heap.push (.cells #[.int .i64 a, .int .i64 b] 37)).push (.cells #[.int .i64 c, .int .i64 d] 37) := by rw [← hV]; rfl
  have q1 : V.heap[W.heap.size]? = some (.cells #[.int .i64 a, .int .i64 b] 37) := by rw [hh, Array.getElem?_push, if_neg (by simp), Array.getElem?_push_size]
  have q2 : V.heap[W.heap.size + 1]? = some (.cells #[.int .i64 c, .int .i64 d] 37) := by
    rw [hh]
    have := Array.getElem?_push_size (xs := W.heap.push (.cells #[.int .i64 a, .int .i64 b] 37)) (x := .cells #[.int .i64 c, .int .i64 d] 37)
    rwa [Array.size_push] at this
  have c0 : V.cell? ⟨W.heap.size, 0, none⟩ = some (.int .i64 a) := by simp only [World.cell?, q1, q2]; rfl
  have c1 : V.cell? ⟨W.heap.size, 1, none⟩ = some (.int .i64 b) := by simp only [World.cell?, q1, q2]; rfl
  have c2 : V.cell? ⟨W.heap.size + 1, 0, none⟩ = some (.int .i64 c) := by simp only [World.cell?, q1, q2]; rfl
  have c3 : V.cell? ⟨W.heap.size + 1, 1, none⟩ = some (.int .i64 d) := by simp only [World.cell?, q1, q2]; rfl
  have hg : ∃ os', V = Sort.grow (W.drewN 1) os' := ⟨#[.cells #[.int .i64 a, .int .i64 b] 37, .cells #[.int .i64 c, .int .i64 d] 37], by rw [← hV, Sort.alloc_eq_grow, Sort.alloc_eq_grow, Sort.grow_grow]; rfl⟩
  clear hV hh q1 q2
  simp only [List.take_succ_cons, List.take_zero, List.drop_succ_cons, List.drop_zero]
  still_step
  still_step
  still_step
  still_step
  still_call (hc _)
  still_step
  still_step
  still_step
  still_step
  still_call (hd _)
  refine wpStill_nil ?_
  clear hc hd c0 c1 c2 c3
  have hz : Calls Tryd.prog 43 #[.slice (some ⟨V.heap.size, 0, none⟩) 2 2] (V.alloc (.cells #[.int .i64 r, .int .i64 s] 3)) fun e w' => e = .returned (.int .i64 z) ∧ V.alloc (.cells #[.int .i64 r, .int .i64 s] 3) = w' := by
    have hp : (V.alloc (.cells #[.int .i64 r, .int .i64 s] 3)).heap = V.heap.push (.cells #[.int .i64 r, .int .i64 s] 3) := rfl
    rw [hzz]
    exact or_any V.heap.size 0 2 r s _ (by simp [World.cell?, hp]) (by simp [World.cell?, hp])
  clear hzz
  go_wp2_with (go_at_call 43; refine hz.mono ?_; rintro e w' ⟨rfl, rfl⟩)
  go_ret
  obtain ⟨os', hg⟩ := hg
  refine ⟨rfl, 1, os' ++ #[.cells #[.int .i64 r, .int .i64 s] 3], ?_⟩
  rw [hg, Sort.alloc_eq_grow, Sort.grow_grow]
end Go.Proofs.YtcldeoolglhdoaaDoor
end
