/- The reference's Add. -/
import Derived.Test.YtgceaicokacgjaaDoorRef2
import Derived.Deep.RegionLaw
import Derived.Deep.DrawnRows
import Derived.BigRegion
import Derived.Deep.DeepCutAuto
import Derived.Deep.CutBlock
import Derived.Deep.RegionHeld3
namespace Go.Proofs.YtgceaicokacgjaaDoor
open Go.RowKit

/-- append at a step of a region that draws its order: the source's address known. -/
theorem step_own {P : Go.Program} {ops : Array Oper} {o : Oper} {a : Act} {K : Act → World → Prop} {Q : Exit → Act → World → Prop} {E : Prop} {wr : World} (hgd : o.guard = none) (s x : Operand) (t : TypeId)
    (ho : o.op = .call { callee := .builtin .append, args := #[s, x], argTypes := #[t, t] })
    (w0 : World) (e : TypeId) (z : Value) (size bytes : Nat) (ht : P.underlying t = some (.slice e)) (hi : (P.info? e).map (fun i => (i.zero, i.size, i.bytes)) = some (some z, size, bytes)) (hzs : z.cells.size = size) (hsz : 0 < size)
    (v : Value) (n : Nat) (xs : List Value) (hs : a.eval s = v) (hown : Own w0 wr e size v n xs)
    (ad : Addr) (m c : Nat) (news : List Value) (hx : a.eval x = .slice (some ad) m c) (hl : news.length = m * size) (hnews : ∀ j u, news[j]? = some u → wr.cell? (ad.add j) = some u) (h1 : ∀ u ∈ news, u.oneCell' = true)
    (h63 : n + m ≤ maxLen) (hbytes : (n + m) * bytes ≤ 140737488355328)
    (h : ∀ v' w', Own w0 w' e size v' (n + m) (xs ++ news) → wr.grownBy w' v.ownBlock → K (a.put o.dst v') w') :
    if Region.wanted o (yielded ops a.tmps) = true then Oper.wp P o a wr K Q else E := by
  obtain ⟨i0, hi, hz0, hz1, hz2⟩ := info_parts hi
  have hw : Region.wanted o (yielded ops a.tmps) = true := by simp [Region.wanted, hgd]
  rw [if_pos hw]
  obtain ⟨v', w', hr, h2, h3, -⟩ := run_append_own_at (P := P) wr w0.heap.size t o.type e i0 z size bytes ht hi hz0 hz1 hz2 hzs hsz v n xs hown.own ad m c news hl hnews h1 h63 hbytes hown.below.size
  unfold Oper.wp execOp
  simp only [ho, resolve, invoke, builtin, Sem.run_bind, Sem.run_pure, Result.andThen_ok, List.map_toArray, List.map_cons, List.map_nil, hs, hx, hr]
  exact h v' w' (hown.push h3 h2) h3
/-- The same with nil as the source. -/
theorem step_nil {P : Go.Program} {ops : Array Oper} {o : Oper} {a : Act} {K : Act → World → Prop} {Q : Exit → Act → World → Prop} {E : Prop} {wr : World} (hgd : o.guard = none) (s x : Operand) (t : TypeId)
    (ho : o.op = .call { callee := .builtin .append, args := #[s, x], argTypes := #[t, t] })
    (w0 : World) (e : TypeId) (z : Value) (size bytes : Nat) (ht : P.underlying t = some (.slice e)) (hi : (P.info? e).map (fun i => (i.zero, i.size, i.bytes)) = some (some z, size, bytes))
    (v : Value) (n : Nat) (xs : List Value) (hs : a.eval s = v) (hown : Own w0 wr e size v n xs) (hx : a.eval x = .slice none 0 0) (h : K (a.put o.dst v) wr) :
    if Region.wanted o (yielded ops a.tmps) = true then Oper.wp P o a wr K Q else E := by
  obtain ⟨i0, hi, hz0, hz1, hz2⟩ := info_parts hi
  have hw : Region.wanted o (yielded ops a.tmps) = true := by simp [Region.wanted, hgd]
  rw [if_pos hw]
  have hrun := run_append_owned_none (P := P) (w := wr) w0.heap.size t o.type e i0 size ht hi v n xs hown.own
  unfold Oper.wp
  simp only [execOp, ho, resolve, invoke, builtin, Sem.run_bind, Sem.run_pure, Result.andThen_ok, List.map_toArray, List.map_cons, List.map_nil, hs, hx, hrun]
  exact h

/-- Which append it is. -/
theorem step_is {P : Go.Program} {ops : Array Oper} {o : Oper} {a : Act} {K : Act → World → Prop} {Q : Exit → Act → World → Prop} {E : Prop} {wr : World} (s x : Operand) (t : TypeId)
    (_ho : o.op = .call { callee := .builtin .append, args := #[s, x], argTypes := #[t, t] }) (h : if Region.wanted o (yielded ops a.tmps) = true then Oper.wp P o a wr K Q else E) : if Region.wanted o (yielded ops a.tmps) = true then Oper.wp P o a wr K Q else E := h
theorem refAdd_no (i : Int) (p n : Nat) (f : Nat → Bool) (w : World) (hs : RefAt w p n f) (hc : canAdd f n i = false) :
    Calls Tryd.prog 20 #[.pointer (some ⟨p, 0, none⟩), .int .i64 i] w fun e w' => e = .returned (.bool false) ∧ w = w' := by
  have HS := Lib.hid hs
  obtain ⟨a, cap, c0, -⟩ := hs.open
  have hsm := hs.small
  clear hs
  by_cases h0 : i < 0
  · clear hc
    go_enter Tryd.func20, Tryd.ntmps20
    go_wp2
    go_ret
    exact ⟨rfl, rfl⟩
  · by_cases h1 : (n : Int) ≤ i
    · clear hc
      go_enter Tryd.func20, Tryd.ntmps20
      go_wp2
      go_ret
      exact ⟨rfl, rfl⟩
    · have hib : inB f i = true := by
        unfold canAdd at hc
        unfold inB
        have a1 : 0 ≤ i := by omega
        have a2 : i < n := by omega
        simpa [a1, a2] using hc
      have HIB := Lib.hid hib
      clear hc hib
      go_enter Tryd.func20, Tryd.ntmps20
      go_wp2_with fail
      refine (refHas_any i _ _ _ _ HS.out).mono ?_
      rw [HIB.out]
      rintro e w' ⟨rfl, rfl⟩
      go_wp2
      go_ret
      exact ⟨rfl, rfl⟩
theorem add_add (g j : Nat) : (Addr.mk g 0 none).add j = ⟨g, j, none⟩ := by unfold Addr.add; split <;> simp_all

theorem one_at {w : World} {g : Nat} {v : Value} (h : w.cell? ⟨g, 0, none⟩ = some v) : ∀ (j : Nat) (u : Value), [v][j]? = some u → w.cell? ((Addr.mk g 0 none).add j) = some u
  | 0, u, hj => by simp at hj; subst hj; simpa [Addr.add] using h
  | j + 1, u, hj => by simp at hj
theorem far_new {wr w1 : World} (h : wr.grownBy w1 (Value.slice none 0 0).ownBlock) : ∀ B o, B < wr.heap.size → w1.cell? ⟨B, o, none⟩ = wr.cell? ⟨B, o, none⟩ :=
  fun B o hB => h.cell_far ⟨B, o, none⟩ hB (by simp [Value.ownBlock])
theorem far_news {w wr : World} {ad : Addr} {l : List Value} (hb : Below w.heap.size w wr) (hg : ad.block < w.heap.size) (h : ∀ jj u, l[jj]? = some u → w.cell? (ad.add jj) = some u) : ∀ jj u, l[jj]? = some u → wr.cell? (ad.add jj) = some u :=
  fun jj u hj => (hb.cell (p := ad.add jj) (by unfold Addr.add; split <;> simp_all)).trans (h jj u hj)
theorem sub_news {w : World} {g off : Nat} {L M : List Nat} (h : ∀ (j x : Nat), L[j]? = some x → ∃ g', some (Addr.mk g 0 none) = some ⟨g', 0, none⟩ ∧ w.cell? ⟨g', j, none⟩ = some (.int .i64 (x : Int))) (hM : ∀ jj x, M[jj]? = some x → L[off + jj]? = some x) :
    ∀ jj u, ((intsL M).map iI)[jj]? = some u → w.cell? ((Addr.mk g off none).add jj) = some u := by
  intro jj u hj
  unfold intsL at hj
  rw [List.getElem?_map, List.getElem?_map] at hj
  cases hx : M[jj]? with
  | none => rw [hx] at hj; simp at hj
  | some x =>
    rw [hx] at hj
    simp at hj
    subst hj
    obtain ⟨g', e, hc⟩ := h _ x (hM jj x hx)
    simp only [Option.some.injEq, Addr.mk.injEq, and_true] at e
    subst e
    have ha : (Addr.mk g off none).add jj = ⟨g, off + jj, none⟩ := by unfold Addr.add; split <;> simp_all
    rw [ha]; exact hc
theorem ints_one (M : List Nat) : ∀ u ∈ (intsL M).map iI, u.oneCell' = true := fun u hu => by
  obtain ⟨x, -, rfl⟩ := List.mem_map.1 hu; rfl
theorem intsL_len (M : List Nat) : ((intsL M).map iI).length = M.length := by simp [intsL]
theorem own_as {w0 wr : World} {v : Value} {n : Nat} {cells : List Value} {l : List Int} (h : Own w0 wr 3 1 v n cells) (hn : l.length = n) (hc : cells = l.map iI) : Own w0 wr 3 1 v l.length (l.map iI) := by
  subst hn hc; exact h
theorem addF_low {f : Nat → Bool} {n j : Nat} (h : ∀ i, f i = true → i < n) (hj : j < n) : ∀ i, addF f j i = true → i < n := by
  intro i hi
  unfold addF at hi
  simp only [Bool.or_eq_true, decide_eq_true_eq] at hi
  rcases hi with hi | rfl
  · exact h _ hi
  · exact hj
set_option maxHeartbeats 16000000 in
theorem refAdd_yes (j p n : Nat) (f : Nat → Bool) (w : World) (hs : RefAt w p n f) (hj : j < n) (hf : f j = false) :
    Calls Tryd.prog 20 #[.pointer (some ⟨p, 0, none⟩), .int .i64 j] w fun e w' => e = .returned (.bool true) ∧ RefAt w' p n (addF f j) ∧ w.grownBy w' (some p) := by
  have HS := Lib.hid hs
  obtain ⟨tl, e1, e2, hA, hT⟩ := elems_split f n j hj hf
  have c0 : w.cell? ⟨p, 0, none⟩ = some (.int .i64 n) := by obtain ⟨a, cap, c0, -⟩ := hs.open; exact c0
  obtain ⟨a, cap, -, c1, cf, hc, hm, hel, -, -⟩ := hs.open
  obtain ⟨L, hL⟩ : ∃ L, L = elems f n := ⟨_, rfl⟩
  rw [← hL] at c1 hc hel
  have H := Lib.hid hel
  have hln : L.length ≤ 1000000 := by rw [hL]; have := elems_len f n; have := hs.small; omega
  have HL := Lib.hid hL
  clear hel hL
  obtain ⟨N, hN⟩ : ∃ N, N = L.length := ⟨_, rfl⟩
  rw [← hN] at c1 hc hln
  have HN := Lib.hid hN
  clear hN
  have hpl := hs.lt
  have hsm := hs.small
  have hNE : Hid (∀ ad, a = some ad → ∃ g, ad = ⟨g, 0, none⟩ ∧ g < w.heap.size ∧ g ≠ p) := by
    obtain ⟨a', cap', -, c1', -, -, -, -, -, h⟩ := hs.open
    have e := c1'.symm.trans c1
    simp only [Option.some.injEq, Value.slice.injEq] at e
    rw [e.1] at h; exact h
  have hNL : Hid (a = none → N = 0 ∧ cap = 0) := by
    obtain ⟨a', cap', -, c1', -, -, -, -, h, -⟩ := hs.open
    have e := c1'.symm.trans c1
    simp only [Option.some.injEq, Value.slice.injEq] at e
    intro h0
    rw [e.1, e.2.1, e.2.2] at h
    exact h h0
  obtain ⟨A, hAe⟩ : ∃ A, A = elems f j := ⟨_, rfl⟩
  rw [← hAe] at e1 e2 hA
  have E1 : Hid (L = A ++ tl) := HL.out.trans e1
  have E2 := Lib.hid e2
  have HA := Lib.hid hA
  have HT := Lib.hid hT
  obtain ⟨q, hq⟩ : ∃ q, q = A.length := ⟨_, rfl⟩
  have HQ := Lib.hid hq
  have hqN : q ≤ N := by have h1 := E1.out; have h2 := HN.out; rw [h1, List.length_append] at h2; omega
  have hib : inB f j = false := by unfold inB; simp [hf]
  have HIB := Lib.hid hib
  have hx0 : ((j : Int) < 0) = False := by simp
  clear e1 e2 hA hT hAe hq hib hs hf hx0
  go_enter Tryd.func20, Tryd.ntmps20
  go_wp2_with fail
  refine (refHas_any (j : Int) _ _ _ _ HS.out).mono ?_
  rw [HIB.out]
  rintro e w' ⟨rfl, rfl⟩
  go_wp2
  go_loop [5] (fun v5 => ∃ k : Nat, k ≤ q ∧ v5 = .int .i64 k) (fun v5 => q - (intOf v5).toNat)
  case atStart => exact ⟨0, by omega, rfl⟩
  case round =>
    obtain ⟨k, hk, rfl⟩ := hrel
    by_cases hlt : k < q
    · obtain ⟨x, hx⟩ : ∃ x, L[k]? = some x := ⟨_, List.getElem?_eq_getElem (by have := HN.out; omega)⟩
      obtain ⟨g, rfl, hcx⟩ := H.out k x hx
      have hxj : x < j := by
        have h1 := E1.out
        rw [h1, List.getElem?_append_left (by have := HQ.out; omega)] at hx
        exact HA.out x (List.mem_of_getElem? hx)
      have hkN : k < N := by omega
      clear hx
      go_wp2
      go_round
      case rel => exact ⟨k + 1, by omega, by go_num⟩
      case measure => simp [intOf]; omega
    · obtain rfl : q = k := by omega
      have hq0 : (0 : Int) ≤ (q : Int) := by omega
      have hq1 : (q : Int) ≤ (N : Int) := by omega
      have hq2 : (N : Int) ≤ (cap : Int) := by omega
      cases a with
      | none =>
        obtain ⟨rfl, rfl⟩ := hNL.out rfl
        obtain rfl : q = 0 := by omega
        have hA0 : A = [] := List.eq_nil_of_length_eq_zero HQ.out.symm
        have hT0 : tl = [] := by
          have h1 := E1.out; have h2 := HN.out
          rw [h1, List.length_append] at h2
          exact List.eq_nil_of_length_eq_zero (by omega)
        subst hA0 hT0
        go_upto_region 6 with (fail)
        go_region_law (first
          | ((refine step_is (.const (.slice none 0 0)) (.tmp 47) 22 ?_ ?_; exact rfl; refine step_nil (by rfl) _ _ 22 (by rfl) w 3 _ 1 8 Tryd.underlying22 infoInt (.slice none 0 0) 0 [] (by rfl) (Own.begin (by go_grown) _ _) (by rfl) ?_))
          | ((refine step_is (.tmp 48) (.tmp 50) 22 ?_ ?_; exact rfl; refine step_own (by rfl) _ _ 22 (by rfl) w 3 _ 1 8 Tryd.underlying22 infoInt rfl (by decide) (.slice none 0 0) 0 [] (by rfl) (Own.begin (by go_grown) _ _) _ 1 1 [.int .i64 j] (by rfl) (by rfl) (one_at (by simp; done)) (one_cell _ rfl) (by unfold maxLen; omega) (by omega) ?_; intro v2 w2 hO2 hg2; obtain ⟨a3, c3, rfl⟩ := hO2.shape; have HO3 := Lib.hid hO2; have k3 := (hO2.below.cell (p := ⟨p, 1, none⟩) hpl).trans c1; have k4 := (hO2.below.frozen (p := ⟨p, 1, none⟩) hpl).trans cf; have hz2 : p < w2.heap.size := Nat.lt_of_lt_of_le hpl hO2.below.size; clear hO2 hg2))
          | ((refine step_is (.tmp 51) (.tmp 57) 22 ?_ ?_; exact rfl; refine step_nil (by rfl) _ _ 22 (by rfl) w 3 _ 1 8 Tryd.underlying22 infoInt _ _ _ (by rfl) (HO3.out.more (by go_grown)) (by rfl) ?_)))
        all_goals
          have h3 := HO3.out
          simp only [Nat.zero_add, List.nil_append] at h3
          have hfin := HS.out.store (f' := addF f j) (own_as (l := intsL [j]) h3 (by simp [intsL]) (by simp [intsL, iI])) (by rw [E2.out]; rfl) (addF_low HS.out.low hj)
          have HFIN := Lib.hid hfin
          clear h3 hfin
          go_wp2
          go_ret
          exact ⟨rfl, HFIN.out⟩
      | some ad =>
        obtain ⟨g, rfl, hgl, hgp⟩ := hNE.out ad rfl
        have hLA : A.length + tl.length = N := by
          have h1 := E1.out; have h2 := HN.out
          rw [h1, List.length_append] at h2
          exact h2.symm
        have hqA := HQ.out
        obtain ⟨adT, hsl, hgT, hnT⟩ : ∃ adT : Addr, (if cap = q then some (Addr.mk g 0 none) else some (Addr.mk g q none)) = some adT ∧ adT.block < w.heap.size ∧ Hid (∀ jj u, ((intsL tl).map iI)[jj]? = some u → w.cell? (adT.add jj) = some u) := by
          by_cases e : cap = q
          · rw [if_pos e]
            refine ⟨_, rfl, hgl, fun jj u hj => ?_⟩
            have := (List.getElem?_eq_some_iff.1 hj).1
            rw [intsL_len] at this; omega
          · rw [if_neg e]
            refine ⟨_, rfl, hgl, sub_news H.out fun jj x hx => ?_⟩
            rw [E1.out, List.getElem?_append_right (by omega)]
            have e2 : q + jj - A.length = jj := by omega
            rw [e2]; exact hx
        have hq3 : (q : Int) ≤ (cap : Int) := by omega
        have hnA : Hid (∀ jj u, ((intsL A).map iI)[jj]? = some u → w.cell? ((Addr.mk g 0 none).add jj) = some u) := sub_news H.out fun jj x hx => by
          rw [E1.out, Nat.zero_add, List.getElem?_append_left (List.getElem?_eq_some_iff.1 hx).1]; exact hx
        have hlA : Hid (((intsL A).map iI).length = q * 1) := by show _ = _; rw [intsL_len]; omega
        have h1A : Hid (∀ u ∈ (intsL A).map iI, u.oneCell' = true) := ints_one A
        have hlT : Hid (((intsL tl).map iI).length = (N - q) * 1) := by show _ = _; rw [intsL_len]; omega
        have h1T : Hid (∀ u ∈ (intsL tl).map iI, u.oneCell' = true) := ints_one tl
        clear hLA hqA
        by_cases hqn : q < N
        · obtain ⟨x, hx⟩ : ∃ x, L[q]? = some x := ⟨_, List.getElem?_eq_getElem (by have := HN.out; omega)⟩
          obtain ⟨g', e', hcx⟩ := H.out q x hx
          simp only [Option.some.injEq, Addr.mk.injEq, and_true] at e'
          subst e'
          have hxj : j < x := by
            have h1 := E1.out
            rw [h1, List.getElem?_append_right (by have := HQ.out; omega)] at hx
            exact HT.out x (List.mem_of_getElem? hx)
          have hxj2 : ¬ (x : Int) < (j : Int) := by omega
          clear hx
          go_upto_region 6 with (fail)
          go_region_law (first
            | ((refine step_is (.const (.slice none 0 0)) (.tmp 47) 22 ?_ ?_; exact rfl; refine step_own (by rfl) _ _ 22 (by rfl) w 3 _ 1 8 Tryd.underlying22 infoInt rfl (by decide) (.slice none 0 0) 0 [] (by rfl) (Own.begin (by go_grown) _ _) ⟨g, 0, none⟩ q cap ((intsL A).map iI) (by rfl) hlA.out (far_news (by go_grown) hgl hnA.out) h1A.out (by unfold maxLen; omega) (by omega) ?_; intro v1 w1 hO1 hg1; have HO1 := Lib.hid hO1; have k1 := (hO1.below.cell (p := ⟨p, 1, none⟩) hpl).trans c1; have k2 := (hO1.below.frozen (p := ⟨p, 1, none⟩) hpl).trans cf; have hz1 : p < w1.heap.size := Nat.lt_of_lt_of_le hpl hO1.below.size; have hy1 : ¬ p = w1.heap.size := Nat.ne_of_lt hz1; have HG1 := Lib.hid (far_new hg1); clear hO1 hg1))
            | ((refine step_is (.tmp 48) (.tmp 50) 22 ?_ ?_; exact rfl; refine step_own (by rfl) _ _ 22 (by rfl) w 3 _ 1 8 Tryd.underlying22 infoInt rfl (by decide) v1 (0 + q) ([] ++ (intsL A).map iI) (by rfl) (HO1.out.more (by go_grown)) _ 1 1 [.int .i64 j] (by rfl) (by rfl) (by first | exact one_at (by simp; done) | exact one_at ((HG1.out _ _ (by simp; done)).trans (by simp; done))) (one_cell _ rfl) (by unfold maxLen; omega) (by omega) ?_; intro v2 w2 hO2 hg2; have HO2 := Lib.hid hO2; have k3 := (hO2.below.cell (p := ⟨p, 1, none⟩) hpl).trans c1; have k4 := (hO2.below.frozen (p := ⟨p, 1, none⟩) hpl).trans cf; have hz2 : p < w2.heap.size := Nat.lt_of_lt_of_le hpl hO2.below.size; have hy2 : ¬ p = w2.heap.size := Nat.ne_of_lt hz2; clear hO2 hg2))
            | ((refine step_is (.tmp 51) (.tmp 57) 22 ?_ ?_; exact rfl; refine step_own (by rfl) _ _ 22 (by rfl) w 3 _ 1 8 Tryd.underlying22 infoInt rfl (by decide) v2 (0 + q + 1) ([] ++ (intsL A).map iI ++ [.int .i64 j]) (by rfl) (HO2.out.more (by go_grown)) adT (N - q) (cap - q) ((intsL tl).map iI) (by first | rfl | exact congrArg (fun x => Value.slice x (N - q) (cap - q)) hsl) hlT.out (far_news (HO2.out.more (by go_grown)).below hgT hnT.out) h1T.out (by unfold maxLen; omega) (by omega) ?_; intro v3 w3 hO3 hg3; obtain ⟨a3, c3, rfl⟩ := hO3.shape; have HO3 := Lib.hid hO3; have k5 := (hO3.below.cell (p := ⟨p, 1, none⟩) hpl).trans c1; have k6 := (hO3.below.frozen (p := ⟨p, 1, none⟩) hpl).trans cf; have hz3 : p < w3.heap.size := Nat.lt_of_lt_of_le hpl hO3.below.size; have hy3 : ¬ p = w3.heap.size := Nat.ne_of_lt hz3; clear hO3 hg3)))
          all_goals
            have h3 := HO3.out
            simp only [Nat.zero_add, List.nil_append] at h3
            have hfin := HS.out.store (f' := addF f j) (own_as (l := intsL (A ++ j :: tl)) h3 (by have h1 := E1.out; have h2 := HN.out; have h4 := HQ.out; rw [h1, List.length_append] at h2; simp [intsL]; omega) (by simp [intsL, iI])) (by rw [E2.out]; rfl) (addF_low HS.out.low hj)
            have HFIN := Lib.hid hfin
            clear h3 hfin
            go_wp2
            go_ret
            exact ⟨rfl, HFIN.out⟩
        · skip
          go_upto_region 6 with (fail)
          go_region_law (first
            | ((refine step_is (.const (.slice none 0 0)) (.tmp 47) 22 ?_ ?_; exact rfl; refine step_own (by rfl) _ _ 22 (by rfl) w 3 _ 1 8 Tryd.underlying22 infoInt rfl (by decide) (.slice none 0 0) 0 [] (by rfl) (Own.begin (by go_grown) _ _) ⟨g, 0, none⟩ q cap ((intsL A).map iI) (by rfl) hlA.out (far_news (by go_grown) hgl hnA.out) h1A.out (by unfold maxLen; omega) (by omega) ?_; intro v1 w1 hO1 hg1; have HO1 := Lib.hid hO1; have k1 := (hO1.below.cell (p := ⟨p, 1, none⟩) hpl).trans c1; have k2 := (hO1.below.frozen (p := ⟨p, 1, none⟩) hpl).trans cf; have hz1 : p < w1.heap.size := Nat.lt_of_lt_of_le hpl hO1.below.size; have hy1 : ¬ p = w1.heap.size := Nat.ne_of_lt hz1; have HG1 := Lib.hid (far_new hg1); clear hO1 hg1))
            | ((refine step_is (.tmp 48) (.tmp 50) 22 ?_ ?_; exact rfl; refine step_own (by rfl) _ _ 22 (by rfl) w 3 _ 1 8 Tryd.underlying22 infoInt rfl (by decide) v1 (0 + q) ([] ++ (intsL A).map iI) (by rfl) (HO1.out.more (by go_grown)) _ 1 1 [.int .i64 j] (by rfl) (by rfl) (by first | exact one_at (by simp; done) | exact one_at ((HG1.out _ _ (by simp; done)).trans (by simp; done))) (one_cell _ rfl) (by unfold maxLen; omega) (by omega) ?_; intro v2 w2 hO2 hg2; have HO2 := Lib.hid hO2; have k3 := (hO2.below.cell (p := ⟨p, 1, none⟩) hpl).trans c1; have k4 := (hO2.below.frozen (p := ⟨p, 1, none⟩) hpl).trans cf; have hz2 : p < w2.heap.size := Nat.lt_of_lt_of_le hpl hO2.below.size; have hy2 : ¬ p = w2.heap.size := Nat.ne_of_lt hz2; clear hO2 hg2))
            | ((refine step_is (.tmp 51) (.tmp 57) 22 ?_ ?_; exact rfl; refine step_own (by rfl) _ _ 22 (by rfl) w 3 _ 1 8 Tryd.underlying22 infoInt rfl (by decide) v2 (0 + q + 1) ([] ++ (intsL A).map iI ++ [.int .i64 j]) (by rfl) (HO2.out.more (by go_grown)) adT (N - q) (cap - q) ((intsL tl).map iI) (by first | rfl | exact congrArg (fun x => Value.slice x (N - q) (cap - q)) hsl) hlT.out (far_news (HO2.out.more (by go_grown)).below hgT hnT.out) h1T.out (by unfold maxLen; omega) (by omega) ?_; intro v3 w3 hO3 hg3; obtain ⟨a3, c3, rfl⟩ := hO3.shape; have HO3 := Lib.hid hO3; have k5 := (hO3.below.cell (p := ⟨p, 1, none⟩) hpl).trans c1; have k6 := (hO3.below.frozen (p := ⟨p, 1, none⟩) hpl).trans cf; have hz3 : p < w3.heap.size := Nat.lt_of_lt_of_le hpl hO3.below.size; have hy3 : ¬ p = w3.heap.size := Nat.ne_of_lt hz3; clear hO3 hg3)))
          all_goals
            have h3 := HO3.out
            simp only [Nat.zero_add, List.nil_append] at h3
            have hfin := HS.out.store (f' := addF f j) (own_as (l := intsL (A ++ j :: tl)) h3 (by have h1 := E1.out; have h2 := HN.out; have h4 := HQ.out; rw [h1, List.length_append] at h2; simp [intsL]; omega) (by simp [intsL, iI])) (by rw [E2.out]; rfl) (addF_low HS.out.low hj)
            have HFIN := Lib.hid hfin
            clear h3 hfin
            go_wp2
            go_ret
            exact ⟨rfl, HFIN.out⟩
end Go.Proofs.YtgceaicokacgjaaDoor
