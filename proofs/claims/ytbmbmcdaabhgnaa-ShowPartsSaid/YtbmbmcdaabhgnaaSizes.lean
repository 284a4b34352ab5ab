/- How much there is in a program: what show.Size and the reference's Size compute. -/
import Derived.Test.YtbmbmcdaabhgnaaBase
namespace Go.Proofs.Ytbmbmcdaabhgnaa
open Go.RowKit

mutual
def sizeE : Expr → Nat | ⟨_, _, _, kids⟩ => 1 + sizeEs kids
def sizeEs : List Expr → Nat | [] => 0 | x :: r => sizeE x + sizeEs r
end
mutual
def sizeS : Stmt → Nat | ⟨_, _, _, _, exprs, thn, els⟩ => 1 + sizeEs exprs + sizeSs thn + sizeSs els
def sizeSs : List Stmt → Nat | [] => 0 | x :: r => sizeS x + sizeSs r
end
def sizeMs : List Method → Nat | [] => 0 | m :: r => 1 + sizeSs m.body + sizeMs r
def sizeCs : List Class → Nat | [] => 0 | c :: r => 1 + c.fields.length + sizeMs c.methods + sizeCs r
def sizeP (p : Program) : Nat := sizeSs p.main + sizeCs p.classes

theorem sizeEs_append : ∀ (a b : List Expr), sizeEs (a ++ b) = sizeEs a + sizeEs b
  | [], b => by simp [sizeEs]
  | x :: a, b => by simp [sizeEs, sizeEs_append a b, Nat.add_assoc]
theorem sizeSs_append : ∀ (a b : List Stmt), sizeSs (a ++ b) = sizeSs a + sizeSs b
  | [], b => by simp [sizeSs]
  | x :: a, b => by simp [sizeSs, sizeSs_append a b, Nat.add_assoc]
theorem sizeMs_append : ∀ (a b : List Method), sizeMs (a ++ b) = sizeMs a + sizeMs b
  | [], b => by simp [sizeMs]
  | x :: a, b => by simp [sizeMs, sizeMs_append a b, Nat.add_assoc]
theorem sizeCs_append : ∀ (a b : List Class), sizeCs (a ++ b) = sizeCs a + sizeCs b
  | [], b => by simp [sizeCs]
  | x :: a, b => by simp [sizeCs, sizeCs_append a b, Nat.add_assoc]
theorem sizeEs_take (l : List Expr) (j : Nat) (x : Expr) (h : l[j]? = some x) : sizeEs (l.take (j + 1)) = sizeEs (l.take j) + (1 + sizeEs x.kids) := by
  rw [List.take_add_one, h, sizeEs_append]; cases x; simp [sizeEs, sizeE]
theorem sizeSs_take (l : List Stmt) (j : Nat) (x : Stmt) (h : l[j]? = some x) : sizeSs (l.take (j + 1)) = sizeSs (l.take j) + (1 + sizeEs x.exprs + sizeSs x.thn + sizeSs x.els) := by
  rw [List.take_add_one, h, sizeSs_append]; cases x; simp [sizeSs, sizeS]
theorem sizeMs_take (l : List Method) (j : Nat) (x : Method) (h : l[j]? = some x) : sizeMs (l.take (j + 1)) = sizeMs (l.take j) + (1 + sizeSs x.body) := by
  rw [List.take_add_one, h, sizeMs_append]; simp [sizeMs]
theorem sizeCs_take (l : List Class) (j : Nat) (x : Class) (h : l[j]? = some x) : sizeCs (l.take (j + 1)) = sizeCs (l.take j) + (1 + x.fields.length + sizeMs x.methods) := by
  rw [List.take_add_one, h, sizeCs_append]; simp [sizeCs]

theorem i64_wrap (x : Int) : IntKind.i64.wrap x = wrap64 x := by simp only [IntKind.wrap_i64, wrap64]
theorem wrap_acc (a b : Int) : wrap64 (wrap64 a + wrap64 (1 + wrap64 b)) = wrap64 (a + (1 + b)) := by
  simp only [wrap64]; omega
theorem wrap_acc4 (a b c d : Int) : wrap64 (wrap64 a + wrap64 (wrap64 (wrap64 (1 + wrap64 b) + wrap64 c) + wrap64 d)) = wrap64 (a + (1 + b + c + d)) := by
  simp only [wrap64]; omega
theorem wrap_two (a b : Int) : wrap64 (wrap64 a + wrap64 b) = wrap64 (a + b) := by
  simp only [wrap64]; omega

theorem exprs_any (d : Nat) : ∀ (w : World) (v : Value) (l : List Expr), RExprs d w (· < w.heap.size) v l →
    Calls Try.prog 20 #[v] w fun e w' => e = .returned (.int .i64 (wrap64 (sizeEs l))) ∧ Below w.heap.size w w' := by
  induction d using Nat.strongRecOn with
  | ind d ih =>
    intro w v l ⟨a, n, cap, hv, hn, hcap, hmax, hel⟩
    subst hv
    have H := Lib.hid hel
    have IH := Lib.hid ih
    have HN := Lib.hid hn
    unfold maxLen at hmax
    clear hel ih hn
    go_enter Try.func20, Try.ntmps20
    go_wp2
    go_loopw [2, 7] (fun v2 v7 w' => ∃ j : Nat, j ≤ n ∧ v7 = .int .i64 j ∧ v2 = .int .i64 (wrap64 (sizeEs (l.take j))) ∧ Below w.heap.size w w') (fun _ v7 _ => n - (intOf v7).toNat)
    case atStart => exact ⟨0, by omega, rfl, by simp [sizeEs, wrap64], Below.refl _ _⟩
    case round =>
      obtain ⟨j, hj, rfl, rfl, hb⟩ := hrel
      have HB := Lib.hid hb
      clear hb
      by_cases hlt : j < n
      · obtain ⟨x, hx⟩ : ∃ x, l[j]? = some x := ⟨_, List.getElem?_eq_getElem (by rw [HN.out]; exact hlt)⟩
        have HX := Lib.hid hx
        clear hx
        obtain ⟨b, off, cs, rfl, hbl, hc, hr⟩ := H.out j _ HX.out
        obtain ⟨d', a', n', cap', hd, rfl, -, -, -, h4⟩ := hr.inv
        obtain ⟨c0, c1, c2, c3, -⟩ := cellsAt_of_block (HB.out.block b hbl) hc
        have H4 := Lib.hid h4
        clear h4 hc hr
        go_wp2_with fail
        refine (IH.out d' hd _ _ _ (H4.out.mono (fun k hk => ?_) (fun k hk => ?_))).mono ?_
        · have := HB.out.size; simp; omega
        · rw [Below.heap_alloc _ _ _ (by have := HB.out.size; omega)]; exact HB.out.block k hk
        rintro e w1 ⟨rfl, hb1⟩
        have HB1 := Lib.hid hb1
        clear hb1
        go_wp2
        refine ⟨⟨j + 1, by omega, by go_num, ?_, ?_⟩, by simp [intOf]; omega⟩
        · rw [wrap_acc, sizeEs_take _ _ _ HX.out]; simp
        · exact (HB.out.alloc HB.out.size _).trans (HB1.out.mono (by have := HB.out.size; simp; omega))
      · obtain rfl : j = n := by omega
        go_wp2
        go_ret
        have et := List.take_of_length_le (l := l) (i := j) (by rw [HN.out]; exact Nat.le_refl _)
        rw [et]
        exact ⟨rfl, HB.out⟩

theorem sizeExprs_any (d : Nat) : ∀ (w : World) (v : Value) (l : List Expr), RExprs d w (· < w.heap.size) v l →
    Calls Try.prog 21 #[v] w fun e w' => e = .returned (.int .i64 (wrap64 (sizeEs l))) ∧ Below w.heap.size w w' := by
  induction d using Nat.strongRecOn with
  | ind d ih =>
    intro w v l ⟨a, n, cap, hv, hn, hcap, hmax, hel⟩
    subst hv
    have H := Lib.hid hel
    have IH := Lib.hid ih
    have HN := Lib.hid hn
    unfold maxLen at hmax
    clear hel ih hn
    go_enter Try.func21, Try.ntmps21
    go_wp2
    go_loopw [3, 8] (fun v2 v7 w' => ∃ j : Nat, j ≤ n ∧ v7 = .int .i64 j ∧ v2 = .int .i64 (wrap64 (sizeEs (l.take j))) ∧ Below w.heap.size w w') (fun _ v7 _ => n - (intOf v7).toNat)
    case atStart => exact ⟨0, by omega, rfl, by simp [sizeEs, wrap64], Below.refl _ _⟩
    case round =>
      obtain ⟨j, hj, rfl, rfl, hb⟩ := hrel
      have HB := Lib.hid hb
      clear hb
      by_cases hlt : j < n
      · obtain ⟨x, hx⟩ : ∃ x, l[j]? = some x := ⟨_, List.getElem?_eq_getElem (by rw [HN.out]; exact hlt)⟩
        have HX := Lib.hid hx
        clear hx
        obtain ⟨b, off, cs, rfl, hbl, hc, hr⟩ := H.out j _ HX.out
        obtain ⟨d', a', n', cap', hd, rfl, -, -, -, h4⟩ := hr.inv
        obtain ⟨c0, c1, c2, c3, -⟩ := cellsAt_of_block (HB.out.block b hbl) hc
        have H4 := Lib.hid h4
        clear h4 hc hr
        go_wp2_with fail
        refine (IH.out d' hd _ _ _ (H4.out.mono (fun k hk => ?_) (fun k hk => ?_))).mono ?_
        · have := HB.out.size; simp; omega
        · rw [Below.heap_alloc _ _ _ (by have := HB.out.size; omega)]; exact HB.out.block k hk
        rintro e w1 ⟨rfl, hb1⟩
        have HB1 := Lib.hid hb1
        clear hb1
        go_wp2
        refine ⟨⟨j + 1, by omega, by go_num, ?_, ?_⟩, by simp [intOf]; omega⟩
        · rw [wrap_acc, sizeEs_take _ _ _ HX.out]; simp
        · exact (HB.out.alloc HB.out.size _).trans (HB1.out.mono (by have := HB.out.size; simp; omega))
      · obtain rfl : j = n := by omega
        go_wp2
        go_ret
        have et := List.take_of_length_le (l := l) (i := j) (by rw [HN.out]; exact Nat.le_refl _)
        rw [et]
        exact ⟨rfl, HB.out⟩

theorem many_any (d : Nat) : ∀ (w : World) (v : Value) (l : List Stmt), RStmts d w (· < w.heap.size) v l →
    Calls Try.prog 10 #[v] w fun e w' => e = .returned (.int .i64 (wrap64 (sizeSs l))) ∧ Below w.heap.size w w' := by
  induction d using Nat.strongRecOn with
  | ind d ih =>
    intro w v l ⟨a, n, cap, hv, hn, hcap, hmax, hel⟩
    subst hv
    have H := Lib.hid hel
    have IH := Lib.hid ih
    have HN := Lib.hid hn
    unfold maxLen at hmax
    clear hel ih hn
    go_enter Try.func10, Try.ntmps10
    go_wp2
    go_loopw [2, 7] (fun v2 v7 w' => ∃ j : Nat, j ≤ n ∧ v7 = .int .i64 j ∧ v2 = .int .i64 (wrap64 (sizeSs (l.take j))) ∧ Below w.heap.size w w') (fun _ v7 _ => n - (intOf v7).toNat)
    case atStart => exact ⟨0, by omega, rfl, by simp [sizeSs, wrap64], Below.refl _ _⟩
    case round =>
      obtain ⟨j, hj, rfl, rfl, hb⟩ := hrel
      have HB := Lib.hid hb
      clear hb
      by_cases hlt : j < n
      · obtain ⟨x, hx⟩ : ∃ x, l[j]? = some x := ⟨_, List.getElem?_eq_getElem (by rw [HN.out]; exact hlt)⟩
        have HX := Lib.hid hx
        clear hx
        obtain ⟨b, off, cs, rfl, hbl, hc, hr⟩ := H.out j _ HX.out
        obtain ⟨d', a1, n1, cap1, a2, n2, cap2, a3, n3, cap3, hd, rfl, -, -, -, -, h4, h5, h6⟩ := hr.inv
        obtain ⟨c0, c1, c2, c3, c4, c5, c6, -⟩ := cellsAt_of_block (HB.out.block b hbl) hc
        have H4 := Lib.hid h4
        have H5 := Lib.hid h5
        have H6 := Lib.hid h6
        clear h4 h5 h6 hc hr
        go_wp2
        generalize hw1 : wr.alloc _ = w1
        have hkeep : Hid (∀ y : WB w1.heap.size w1, (∀ b, b < w.heap.size → b < y.val.heap.size) ∧ (∀ b, b < w.heap.size → y.val.heap[b]? = w.heap[b]?) ∧ w.heap.size ≤ w1.heap.size) := by
          intro y
          have h1 := y.prop.size
          have h2 := HB.out.size
          have h3 : w1.heap.size = wr.heap.size + 1 := by rw [← hw1]; simp
          refine ⟨fun b hb => by omega, fun b hb => ?_, by omega⟩
          rw [y.prop.block b (by omega), ← hw1, Below.heap_alloc _ _ _ (by omega)]
          exact HB.out.block b hb
        have HB1 : Hid (Below w.heap.size w w1) := by rw [← hw1]; exact HB.out.alloc HB.out.size _
        have k4 : ∀ y : WB w1.heap.size w1, y.val.cell? ⟨wr.heap.size, 4, none⟩ = some (.slice a1 n1 cap1) := by
          intro y; rw [y.prop.cell (by rw [← hw1]; simp), ← hw1]; simp
        have k5 : ∀ y : WB w1.heap.size w1, y.val.cell? ⟨wr.heap.size, 5, none⟩ = some (.slice a2 n2 cap2) := by
          intro y; rw [y.prop.cell (by rw [← hw1]; simp), ← hw1]; simp
        have k6 : ∀ y : WB w1.heap.size w1, y.val.cell? ⟨wr.heap.size, 6, none⟩ = some (.slice a3 n3 cap3) := by
          intro y; rw [y.prop.cell (by rw [← hw1]; simp), ← hw1]; simp
        clear hw1
        refine wp_region_below w1.heap.size (by kernel_rfl) (by kernel_rfl) ?_
        repeat (quiet_step (first | exact Calls.quiet_below (Nat.le_refl _) (exprs_any d' _ _ _ (H4.out.mono (hkeep _).1 (hkeep _).2.1)) | exact Calls.quiet_below (Nat.le_refl _) (IH.out d' hd _ _ _ (H5.out.mono (hkeep _).1 (hkeep _).2.1)) | exact Calls.quiet_below (Nat.le_refl _) (IH.out d' hd _ _ _ (H6.out.mono (hkeep _).1 (hkeep _).2.1))))
        refine wpQuiet_nil ?_
        rintro _ ⟨y, rfl⟩
        go_wp2
        refine ⟨⟨j + 1, by omega, by go_num, ?_, HB1.out.trans (y.prop.mono (hkeep y).2.2)⟩, by simp [intOf]; omega⟩
        simp only [i64_wrap]
        rw [wrap_acc4, sizeSs_take _ _ _ HX.out]; simp
      · obtain rfl : j = n := by omega
        go_wp2
        go_ret
        have et := List.take_of_length_le (l := l) (i := j) (by rw [HN.out]; exact Nat.le_refl _)
        rw [et]
        exact ⟨rfl, HB.out⟩

theorem sizeStmts_any (d : Nat) : ∀ (w : World) (v : Value) (l : List Stmt), RStmts d w (· < w.heap.size) v l →
    Calls Try.prog 11 #[v] w fun e w' => e = .returned (.int .i64 (wrap64 (sizeSs l))) ∧ Below w.heap.size w w' := by
  induction d using Nat.strongRecOn with
  | ind d ih =>
    intro w v l ⟨a, n, cap, hv, hn, hcap, hmax, hel⟩
    subst hv
    have H := Lib.hid hel
    have IH := Lib.hid ih
    have HN := Lib.hid hn
    unfold maxLen at hmax
    clear hel ih hn
    go_enter Try.func11, Try.ntmps11
    go_wp2
    go_loopw [3, 8] (fun v2 v7 w' => ∃ j : Nat, j ≤ n ∧ v7 = .int .i64 j ∧ v2 = .int .i64 (wrap64 (sizeSs (l.take j))) ∧ Below w.heap.size w w') (fun _ v7 _ => n - (intOf v7).toNat)
    case atStart => exact ⟨0, by omega, rfl, by simp [sizeSs, wrap64], Below.refl _ _⟩
    case round =>
      obtain ⟨j, hj, rfl, rfl, hb⟩ := hrel
      have HB := Lib.hid hb
      clear hb
      by_cases hlt : j < n
      · obtain ⟨x, hx⟩ : ∃ x, l[j]? = some x := ⟨_, List.getElem?_eq_getElem (by rw [HN.out]; exact hlt)⟩
        have HX := Lib.hid hx
        clear hx
        obtain ⟨b, off, cs, rfl, hbl, hc, hr⟩ := H.out j _ HX.out
        obtain ⟨d', a1, n1, cap1, a2, n2, cap2, a3, n3, cap3, hd, rfl, -, -, -, -, h4, h5, h6⟩ := hr.inv
        obtain ⟨c0, c1, c2, c3, c4, c5, c6, -⟩ := cellsAt_of_block (HB.out.block b hbl) hc
        have H4 := Lib.hid h4
        have H5 := Lib.hid h5
        have H6 := Lib.hid h6
        clear h4 h5 h6 hc hr
        go_wp2
        generalize hw1 : wr.alloc _ = w1
        have hkeep : Hid (∀ y : WB w1.heap.size w1, (∀ b, b < w.heap.size → b < y.val.heap.size) ∧ (∀ b, b < w.heap.size → y.val.heap[b]? = w.heap[b]?) ∧ w.heap.size ≤ w1.heap.size) := by
          intro y
          have h1 := y.prop.size
          have h2 := HB.out.size
          have h3 : w1.heap.size = wr.heap.size + 1 := by rw [← hw1]; simp
          refine ⟨fun b hb => by omega, fun b hb => ?_, by omega⟩
          rw [y.prop.block b (by omega), ← hw1, Below.heap_alloc _ _ _ (by omega)]
          exact HB.out.block b hb
        have HB1 : Hid (Below w.heap.size w w1) := by rw [← hw1]; exact HB.out.alloc HB.out.size _
        have k4 : ∀ y : WB w1.heap.size w1, y.val.cell? ⟨wr.heap.size, 4, none⟩ = some (.slice a1 n1 cap1) := by
          intro y; rw [y.prop.cell (by rw [← hw1]; simp), ← hw1]; simp
        have k5 : ∀ y : WB w1.heap.size w1, y.val.cell? ⟨wr.heap.size, 5, none⟩ = some (.slice a2 n2 cap2) := by
          intro y; rw [y.prop.cell (by rw [← hw1]; simp), ← hw1]; simp
        have k6 : ∀ y : WB w1.heap.size w1, y.val.cell? ⟨wr.heap.size, 6, none⟩ = some (.slice a3 n3 cap3) := by
          intro y; rw [y.prop.cell (by rw [← hw1]; simp), ← hw1]; simp
        clear hw1
        refine wp_region_below w1.heap.size (by kernel_rfl) (by kernel_rfl) ?_
        repeat (quiet_step (first | exact Calls.quiet_below (Nat.le_refl _) (sizeExprs_any d' _ _ _ (H4.out.mono (hkeep _).1 (hkeep _).2.1)) | exact Calls.quiet_below (Nat.le_refl _) (IH.out d' hd _ _ _ (H5.out.mono (hkeep _).1 (hkeep _).2.1)) | exact Calls.quiet_below (Nat.le_refl _) (IH.out d' hd _ _ _ (H6.out.mono (hkeep _).1 (hkeep _).2.1))))
        refine wpQuiet_nil ?_
        rintro _ ⟨y, rfl⟩
        go_wp2
        refine ⟨⟨j + 1, by omega, by go_num, ?_, HB1.out.trans (y.prop.mono (hkeep y).2.2)⟩, by simp [intOf]; omega⟩
        simp only [i64_wrap]
        rw [wrap_acc4, sizeSs_take _ _ _ HX.out]; simp
      · obtain rfl : j = n := by omega
        go_wp2
        go_ret
        have et := List.take_of_length_le (l := l) (i := j) (by rw [HN.out]; exact Nat.le_refl _)
        rw [et]
        exact ⟨rfl, HB.out⟩

theorem wrap_acc' (a b : Int) : wrap64 (wrap64 a + wrap64 (1 + b)) = wrap64 (a + (1 + b)) := by
  simp only [wrap64]; omega
theorem size_any (d : Nat) (w : World) (v : Value) (p : Program) (hp : RProgram d w (· < w.heap.size) v p) :
    Calls Try.prog 6 #[v] w fun e w' => e = .returned (.int .i64 (wrap64 (sizeP p))) ∧ Below w.heap.size w w' := by
  obtain ⟨cv, mv, rfl, hC, hM⟩ := hp
  obtain ⟨ca, cn, ccap, rfl, hn, hcap, hmax, hel⟩ := hC
  obtain ⟨ma, mn, mcap, rfl⟩ := hM.shape
  have H := Lib.hid hel
  have HN := Lib.hid hn
  have HM := Lib.hid hM
  unfold maxLen at hmax
  clear hel hn hM
  go_enter Try.func6, Try.ntmps6
  go_wp2_with fail
  refine (many_any d _ _ _ (HM.out.mono (fun k hk => by simp; omega) (fun k hk => by rw [Below.heap_alloc _ _ _ hk]))).mono ?_
  rintro e w1 ⟨rfl, hb1⟩
  have HB1 : Hid (Below w.heap.size w w1) := (((Below.refl _ _).alloc (Nat.le_refl _) _).trans (hb1.mono (by simp)))
  have k0 : w1.cell? ⟨w.heap.size, 0, none⟩ = some (.slice ca cn ccap) := by rw [hb1.cell (by simp)]; simp
  clear hb1
  go_wp2
  go_loopw [3, 14] (fun v3 v14 w' => ∃ j : Nat, j ≤ cn ∧ v14 = .int .i64 j ∧ v3 = .int .i64 (wrap64 (sizeSs p.main + sizeCs (p.classes.take j) : Nat)) ∧ Below w.heap.size w w') (fun _ v14 _ => cn - (intOf v14).toNat)
  case atStart => exact ⟨0, by omega, rfl, by simp [sizeCs], HB1.out⟩
  case round =>
    obtain ⟨j, hj, rfl, rfl, hb⟩ := hrel
    have HB := Lib.hid hb
    clear hb
    by_cases hlt : j < cn
    · obtain ⟨x, hx⟩ : ∃ x, p.classes[j]? = some x := ⟨_, List.getElem?_eq_getElem (by rw [HN.out]; exact hlt)⟩
      have HX := Lib.hid hx
      clear hx
      obtain ⟨b, off, cs, rfl, hbl, hc, fv, mv, rfl, -, -, hf, hm⟩ := H.out j _ HX.out
      obtain ⟨fa, fn, fcap, rfl, hfn, -, hfm, -⟩ := hf
      obtain ⟨a, n, cap, rfl, hn, hcap1, hmax1, hel⟩ := hm
      obtain ⟨c0, c1, c2, c3, -⟩ := cellsAt_of_block (HB.out.block b hbl) hc
      have HF := Lib.hid hfn
      have H2 := Lib.hid hel
      have HN2 := Lib.hid hn
      unfold maxLen at hmax1 hfm
      clear hel hn hfn hc
      obtain ⟨wo, rfl⟩ : ∃ wo : World, wo = wr := ⟨_, rfl⟩
      go_wp2
      go_loopw [3, 27] (fun v3 v27 w' => ∃ k : Nat, k ≤ n ∧ v27 = .int .i64 k ∧ v3 = .int .i64 (wrap64 (sizeSs p.main + sizeCs (p.classes.take j) + (1 + x.fields.length + sizeMs (x.methods.take k)) : Nat)) ∧ Below w.heap.size w w') (fun _ v27 _ => n - (intOf v27).toNat)
      case atStart =>
        refine ⟨0, by omega, rfl, ?_, HB.out.alloc HB.out.size _⟩
        rw [HF.out, wrap_acc']
        simp [sizeMs]
      case round =>
        obtain ⟨k, hk, rfl, rfl, hb⟩ := hrel
        have HB2 := Lib.hid hb
        clear hb
        by_cases hlt2 : k < n
        · obtain ⟨y, hy⟩ : ∃ y, x.methods[k]? = some y := ⟨_, List.getElem?_eq_getElem (by rw [HN2.out]; exact hlt2)⟩
          have HY := Lib.hid hy
          clear hy
          obtain ⟨b', off', cs', rfl, hbl', hc, pv, bv, rfl, -, -, hpv, hbv⟩ := H2.out k _ HY.out
          obtain ⟨pa, pn, pcap, rfl⟩ := RSl.shape hpv
          obtain ⟨ba, bn, bcap, rfl⟩ := RSl.shape hbv
          obtain ⟨e0, e1, e2, e3, -⟩ := cellsAt_of_block (HB2.out.block b' hbl') hc
          have HV := Lib.hid hbv
          clear hpv hbv hc
          go_wp2_with fail
          refine (many_any d _ _ _ (HV.out.mono (fun k hk => ?_) (fun k hk => ?_))).mono ?_
          · have := HB2.out.size; simp; omega
          · rw [Below.heap_alloc _ _ _ (by have := HB2.out.size; omega)]; exact HB2.out.block k hk
          rintro e w2 ⟨rfl, hb2⟩
          have HB3 := Lib.hid hb2
          clear hb2
          go_wp2
          refine ⟨⟨k + 1, by omega, by go_num, ?_, ?_⟩, by simp [intOf]; omega⟩
          · rw [wrap_acc, sizeMs_take _ _ _ HY.out]; congr 2; simp; omega
          · exact (HB2.out.alloc HB2.out.size _).trans (HB3.out.mono (by have := HB2.out.size; simp; omega))
        · obtain rfl : k = n := by omega
          go_wp2
          refine ⟨⟨j + 1, by omega, by go_num, ?_, HB2.out⟩, by simp [intOf]; omega⟩
          have et := List.take_of_length_le (l := x.methods) (i := k) (by rw [HN2.out]; exact Nat.le_refl _)
          rw [et, sizeCs_take _ _ _ HX.out]; congr 2; omega
    · obtain rfl : j = cn := by omega
      go_wp2
      go_ret
      have et := List.take_of_length_le (l := p.classes) (i := j) (by rw [HN.out]; exact Nat.le_refl _)
      rw [et]
      exact ⟨rfl, HB.out⟩

theorem refSize_any (d : Nat) (w : World) (v : Value) (p : Program) (hp : RProgram d w (· < w.heap.size) v p) :
    Calls Try.prog 7 #[v] w fun e w' => e = .returned (.int .i64 (wrap64 (sizeP p))) ∧ Below w.heap.size w w' := by
  obtain ⟨cv, mv, rfl, hC, hM⟩ := hp
  obtain ⟨ca, cn, ccap, rfl, hn, hcap, hmax, hel⟩ := hC
  obtain ⟨ma, mn, mcap, rfl⟩ := hM.shape
  have H := Lib.hid hel
  have HN := Lib.hid hn
  have HM := Lib.hid hM
  unfold maxLen at hmax
  clear hel hn hM
  go_enter Try.func7, Try.ntmps7
  go_wp2_with fail
  refine (sizeStmts_any d _ _ _ (HM.out.mono (fun k hk => by simp; omega) (fun k hk => by rw [Below.heap_alloc _ _ _ hk]))).mono ?_
  rintro e w1 ⟨rfl, hb1⟩
  have HB1 : Hid (Below w.heap.size w w1) := (((Below.refl _ _).alloc (Nat.le_refl _) _).trans (hb1.mono (by simp)))
  have k0 : w1.cell? ⟨w.heap.size, 0, none⟩ = some (.slice ca cn ccap) := by rw [hb1.cell (by simp)]; simp
  clear hb1
  go_wp2
  go_loopw [3, 14] (fun v3 v14 w' => ∃ j : Nat, j ≤ cn ∧ v14 = .int .i64 j ∧ v3 = .int .i64 (wrap64 (sizeSs p.main + sizeCs (p.classes.take j) : Nat)) ∧ Below w.heap.size w w') (fun _ v14 _ => cn - (intOf v14).toNat)
  case atStart => exact ⟨0, by omega, rfl, by simp [sizeCs], HB1.out⟩
  case round =>
    obtain ⟨j, hj, rfl, rfl, hb⟩ := hrel
    have HB := Lib.hid hb
    clear hb
    by_cases hlt : j < cn
    · obtain ⟨x, hx⟩ : ∃ x, p.classes[j]? = some x := ⟨_, List.getElem?_eq_getElem (by rw [HN.out]; exact hlt)⟩
      have HX := Lib.hid hx
      clear hx
      obtain ⟨b, off, cs, rfl, hbl, hc, fv, mv, rfl, -, -, hf, hm⟩ := H.out j _ HX.out
      obtain ⟨fa, fn, fcap, rfl, hfn, -, hfm, -⟩ := hf
      obtain ⟨a, n, cap, rfl, hn, hcap1, hmax1, hel⟩ := hm
      obtain ⟨c0, c1, c2, c3, -⟩ := cellsAt_of_block (HB.out.block b hbl) hc
      have HF := Lib.hid hfn
      have H2 := Lib.hid hel
      have HN2 := Lib.hid hn
      unfold maxLen at hmax1 hfm
      clear hel hn hfn hc
      obtain ⟨wo, rfl⟩ : ∃ wo : World, wo = wr := ⟨_, rfl⟩
      go_wp2
      go_loopw [3, 27] (fun v3 v27 w' => ∃ k : Nat, k ≤ n ∧ v27 = .int .i64 k ∧ v3 = .int .i64 (wrap64 (sizeSs p.main + sizeCs (p.classes.take j) + (1 + x.fields.length + sizeMs (x.methods.take k)) : Nat)) ∧ Below w.heap.size w w') (fun _ v27 _ => n - (intOf v27).toNat)
      case atStart =>
        refine ⟨0, by omega, rfl, ?_, HB.out.alloc HB.out.size _⟩
        rw [HF.out, wrap_acc']
        simp [sizeMs]
      case round =>
        obtain ⟨k, hk, rfl, rfl, hb⟩ := hrel
        have HB2 := Lib.hid hb
        clear hb
        by_cases hlt2 : k < n
        · obtain ⟨y, hy⟩ : ∃ y, x.methods[k]? = some y := ⟨_, List.getElem?_eq_getElem (by rw [HN2.out]; exact hlt2)⟩
          have HY := Lib.hid hy
          clear hy
          obtain ⟨b', off', cs', rfl, hbl', hc, pv, bv, rfl, -, -, hpv, hbv⟩ := H2.out k _ HY.out
          obtain ⟨pa, pn, pcap, rfl⟩ := RSl.shape hpv
          obtain ⟨ba, bn, bcap, rfl⟩ := RSl.shape hbv
          obtain ⟨e0, e1, e2, e3, -⟩ := cellsAt_of_block (HB2.out.block b' hbl') hc
          have HV := Lib.hid hbv
          clear hpv hbv hc
          go_wp2_with fail
          refine (sizeStmts_any d _ _ _ (HV.out.mono (fun k hk => ?_) (fun k hk => ?_))).mono ?_
          · have := HB2.out.size; simp; omega
          · rw [Below.heap_alloc _ _ _ (by have := HB2.out.size; omega)]; exact HB2.out.block k hk
          rintro e w2 ⟨rfl, hb2⟩
          have HB3 := Lib.hid hb2
          clear hb2
          go_wp2
          refine ⟨⟨k + 1, by omega, by go_num, ?_, ?_⟩, by simp [intOf]; omega⟩
          · rw [wrap_acc, sizeMs_take _ _ _ HY.out]; congr 2; simp; omega
          · exact (HB2.out.alloc HB2.out.size _).trans (HB3.out.mono (by have := HB2.out.size; simp; omega))
        · obtain rfl : k = n := by omega
          go_wp2
          refine ⟨⟨j + 1, by omega, by go_num, ?_, HB2.out⟩, by simp [intOf]; omega⟩
          have et := List.take_of_length_le (l := x.methods) (i := k) (by rw [HN2.out]; exact Nat.le_refl _)
          rw [et, sizeCs_take _ _ _ HX.out]; congr 2; omega
    · obtain rfl : j = cn := by omega
      go_wp2
      go_ret
      have et := List.take_of_length_le (l := p.classes) (i := j) (by rw [HN.out]; exact Nat.le_refl _)
      rw [et]
      exact ⟨rfl, HB.out⟩

end Go.Proofs.Ytbmbmcdaabhgnaa
