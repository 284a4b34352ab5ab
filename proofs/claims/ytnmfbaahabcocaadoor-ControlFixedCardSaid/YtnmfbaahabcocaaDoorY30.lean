/- Joined by my own program, in build order: EdgeOwn. -/
import Derived.Test.YtnmfbaahabcocaaDoorY8
import Derived.Test.YtnmfbaahabcocaaDoorY29
set_option linter.unusedVariables false
set_option linter.unusedSimpArgs false
section
namespace Go.Proofs.YtnmfbaahabcocaaDoor
open Go.RowKit
theorem infoEdge : (Tryd.prog.info? 42).map (fun i => (i.zero, i.size, i.bytes)) = some (some (.agg #[.int .i64 0, .int .i64 0]), 2, 16) := by kernel_rfl
def cellsE (l : List Edge) : List Value := l.flatMap fun e => [.int .i64 e.fr, .int .i64 e.tt]
theorem cellsE_snoc (l : List Edge) (e : Edge) : cellsE (l ++ [e]) = cellsE l ++ [.int .i64 e.fr, .int .i64 e.tt] := by simp [cellsE]
theorem cellsE_at : ∀ (l : List Edge) (i : Nat) (e : Edge), l[i]? = some e → (cellsE l)[i * 2]? = some (.int .i64 e.fr) ∧ (cellsE l)[i * 2 + 1]? = some (.int .i64 e.tt)
  | [], i, e, h => by simp at h
  | x :: l, 0, e, h => by simp at h; subst h; simp [cellsE]
  | x :: l, i + 1, e, h => by
    have ih := cellsE_at l i e (by simpa using h)
    have e1 : (i + 1) * 2 = i * 2 + 1 + 1 := by omega
    rw [e1]
    simpa [cellsE] using ih
theorem RE.of_Own {w0 wr : World} {v : Value} {l : List Edge} (h : Own w0 wr 42 2 v l.length (cellsE l)) (hlen : l.length ≤ 1000000000000) : RE wr v l := by
  obtain ⟨hl, h⟩ := h.own
  rcases h with ⟨rfl, h0⟩ | ⟨g, cap, cur, rfl, hb, hg, h1, h2, h3, h4⟩
  · exact ⟨none, 0, 0, rfl, h0, by omega, fun i x hx => by
      have : l = [] := List.eq_nil_of_length_eq_zero h0
      subst this; simp at hx⟩
  · have hsz : l.length * 2 ≤ cur.size := by rw [h3]; exact Nat.mul_le_mul_right _ h1
    refine ⟨_, _, cap, rfl, rfl, by omega, fun i x hx => ⟨g, 0, rfl, (Array.getElem?_eq_some_iff.1 hg).1, ?_⟩⟩
    have hi : i < l.length := (List.getElem?_eq_some_iff.1 hx).1
    obtain ⟨c0, c1⟩ := cellsE_at l i x hx
    rw [← h4, List.getElem?_take, if_pos (by omega), Array.getElem?_toList] at c0
    rw [← h4, List.getElem?_take, if_pos (by omega), Array.getElem?_toList] at c1
    simp [World.cell?, hg, c0, c1]
theorem push_edge {ops : Array Oper} {rest : List Oper} {o : Oper} {a : Act} {Q : Exit → Act → World → Prop} (hgd : o.guard = none) (s x : Operand) (ho : o.op = .call { callee := .builtin .append, args := #[s, x], argTypes := #[32, 32] })
    {w0 wr : World} {v : Value} {l : List Edge} {f t : Int} (hs : a.eval s = v) (hown : Own w0 wr 42 2 v l.length (cellsE l)) {H : Nat} (hx : a.eval x = .slice (some ⟨H, 0, none⟩) 1 1) (hH : wr.heap.size = H) (hn : l.length ≤ 1000000000000)
    (h : ∀ g cap w', Own w0 w' 42 2 (.slice (some ⟨g, 0, none⟩) (l.length + 1) cap) (l ++ [(⟨f, t⟩ : Edge)]).length (cellsE (l ++ [⟨f, t⟩])) → wr.grownBy w' v.ownBlock → (v.ownBlock = some g ∨ g = wr.heap.size + 1) → wpList Tryd.prog ops Q rest (a.put o.dst (.slice (some ⟨g, 0, none⟩) (l.length + 1) cap)) w') :
    wpList Tryd.prog ops Q (o :: rest) a (wr.alloc (.cells #[.int .i64 f, .int .i64 t] 42)) :=
  wpList_push 42 2 16 _ infoEdge rfl (by decide) hgd s x _ ho Tryd.underlying32 hs hown hx hH (by simp) (by simp [Value.oneCell']) (by decide) (by unfold maxLen; omega) (by omega) (fun g cap w' h1 h2 h3 => h g cap w' (by rw [List.length_append, cellsE_snoc]; exact h1) h2 h3)
def keepB (a : Int) (e : Edge) : Bool := decide (e.fr ≠ a) && decide (e.tt ≠ a)
theorem keep_take {l : List Edge} {a : Int} {j : Nat} {x : Edge} (hx : l[j]? = some x) : (l.take (j + 1)).filter (keepB a) = (l.take j).filter (keepB a) ++ if keepB a x = true then [x] else [] := by
  rw [List.take_add_one, hx, List.filter_append]
  by_cases h : keepB a x = true <;> simp [h]
set_option maxHeartbeats 4000000 in
theorem without_any (w : World) (v : Value) (l : List Edge) (a : Int) (hv : RE w v l) (hl : l.length ≤ 1000000) :
    Calls Tryd.prog 54 #[v, .int .i64 a] w fun e w' => ∃ v', e = .returned v' ∧ Own w w' 42 2 v' (l.filter (keepB a)).length (cellsE (l.filter (keepB a))) := by
  obtain ⟨ad, m, cap, rfl, hm, hmax, hel⟩ := hv
  have H := Lib.hid hel
  have HN := Lib.hid hm
  rw [hm] at hl
  clear hel hm
  go_enter Tryd.func54, Tryd.ntmps54
  go_wp2
  go_loopw [5, 10] (fun v5 v10 wr => ∃ j : Nat, j ≤ m ∧ v10 = .int .i64 j ∧ Hid (Own w wr 42 2 v5 ((l.take j).filter (keepB a)).length (cellsE ((l.take j).filter (keepB a))))) (fun _ v10 _ => m - (intOf v10).toNat)
  case atStart => exact ⟨0, by omega, rfl, Own.start _ _ _⟩
  case round =>
    obtain ⟨j, hj, rfl, HO⟩ := hrel
    by_cases hlt : j < m
    · obtain ⟨x, hx⟩ : ∃ x, l[j]? = some x := ⟨_, List.getElem?_eq_getElem (by rw [HN.out]; exact hlt)⟩
      have HX := Lib.hid hx
      obtain ⟨b, off, rfl, hbl, hc0, hc1⟩ := H.out j _ HX.out
      have d0 : wr.cell? ⟨b, off + j * 2, none⟩ = some (.int .i64 x.fr) := (HO.out.below.cell (p := ⟨b, off + j * 2, none⟩) hbl).trans hc0
      have d1 : wr.cell? ⟨b, off + j * 2 + 1, none⟩ = some (.int .i64 x.tt) := (HO.out.below.cell (p := ⟨b, off + j * 2 + 1, none⟩) hbl).trans hc1
      have HKT := Lib.hid (keep_take (a := a) hx)
      clear hc0 hc1 hx
      obtain ⟨xf, xt⟩ := x
      by_cases hq : xf = a ∨ xt = a
      · have hk : keepB a ⟨xf, xt⟩ = false := by unfold keepB; simp; omega
        have HO2 : Hid (∀ o, Own w (wr.alloc o) 42 2 u5 ((l.take (j + 1)).filter (keepB a)).length (cellsE ((l.take (j + 1)).filter (keepB a)))) := fun o => by
          rw [HKT.out, hk]
          simpa using HO.out.alloc o
        clear HKT HO
        by_cases h1 : xf = a
        · have e1 : (xf != a) = false := by simpa using h1
          clear h1 hq hk
          go_wp2
          exact ⟨⟨j + 1, by omega, by go_num, HO2.out _⟩, by simp [intOf]; omega⟩
        · have e1 : (xf != a) = true := by simpa using h1
          have e2 : (xt != a) = false := by simp; omega
          clear h1 hq hk
          go_wp2
          exact ⟨⟨j + 1, by omega, by go_num, HO2.out _⟩, by simp [intOf]; omega⟩
      · have hk : keepB a ⟨xf, xt⟩ = true := by unfold keepB; simp; omega
        have e1 : (xf != a) = true := by simp; omega
        have e2 : (xt != a) = true := by simp; omega
        have HKT2 : Hid ((l.take (j + 1)).filter (keepB a) = (l.take j).filter (keepB a) ++ [⟨xf, xt⟩]) := by
          have h := HKT.out
          rw [hk, if_pos rfl] at h; exact h
        have hlen : ((l.take j).filter (keepB a)).length ≤ 1000000000000 := by
          have h1 := List.length_filter_le (keepB a) (l.take j)
          have h2 : (l.take j).length ≤ j := List.length_take_le _ _
          omega
        clear HKT hq hk
        obtain ⟨a5, c5, rfl⟩ := HO.out.shape
        go_wp2_with (at_builtin; (refine push_edge rfl _ _ rfl rfl (HO.out.alloc _) rfl (by simp) hlen ?_)
                     intro g c w4 hO4 hg4 hat4
                     have HO4 := Lib.hid hO4
                     clear hO4 hg4 hat4)
        exact ⟨⟨j + 1, by omega, by go_num, by rw [HKT2.out]; exact HO4.out⟩, by simp [intOf]; omega⟩
    · obtain rfl : m = j := by omega
      have HO2 : Hid (Own w wr 42 2 u5 (l.filter (keepB a)).length (cellsE (l.filter (keepB a)))) := by
        have h := HO.out
        rwa [List.take_of_length_le (by rw [HN.out]; exact Nat.le_refl _)] at h
      go_wp2
      go_ret
      exact ⟨_, rfl, HO2.out⟩
end Go.Proofs.YtnmfbaahabcocaaDoor
end
