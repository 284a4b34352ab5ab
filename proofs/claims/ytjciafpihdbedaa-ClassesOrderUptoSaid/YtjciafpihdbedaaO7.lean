/- Joined by my own program, in build order: Plain, Plain2, Claw, Claw2, Order, Claw3, LawOrd. -/
import Derived.Test.YtjciafpihdbedaaZ6
import Derived.Test.YtjciafpihdbedaaZ3
set_option linter.unusedVariables false
set_option linter.unusedSimpArgs false
section
set_option linter.unusedVariables false
set_option linter.unusedSimpArgs false
namespace Go.Proofs.Ytjciafpihdbedaa
namespace V
theorem toList_loop (bs : ByteArray) : ∀ (n i : Nat) (r : List UInt8), bs.size - i = n → ByteArray.toList.loop bs i r = r.reverse ++ bs.data.toList.drop i := by
  intro n
  induction n with
  | zero =>
    intro i r h
    unfold ByteArray.toList.loop
    have : ¬ i < bs.size := by omega
    rw [if_neg this, List.drop_eq_nil_of_le (by rw [Array.length_toList]; show bs.size ≤ i; omega)]
    simp
  | succ n ih =>
    intro i r h
    have hi : i < bs.size := by omega
    unfold ByteArray.toList.loop
    rw [if_pos hi, ih (i + 1) _ (by omega)]
    have hl : i < bs.data.toList.length := by rw [Array.length_toList]; exact hi
    rw [List.drop_eq_getElem_cons hl]
    have : bs.get! i = bs.data.toList[i] := by
      have hi' : i < bs.data.size := hi
      show bs.data[i]! = _
      rw [getElem!_pos bs.data i hi']; simp
    rw [this]; simp
theorem toList_data (s : ByteArray) : s.toList = s.data.toList := by
  unfold ByteArray.toList
  rw [toList_loop s _ 0 [] rfl]; simp
theorem toList_inj {a b : ByteArray} : a.toList = b.toList ↔ a = b := by
  rw [toList_data, toList_data]
  refine ⟨fun h => ?_, fun h => by rw [h]⟩
  cases a; cases b
  simpa using h
theorem beq_bytes {a b : ByteArray} : (a.toList == b.toList) = true ↔ a = b := by rw [beq_iff_eq, toList_inj]
theorem onceB_iff {l : List ByteArray} : onceB l = true ↔ l.Nodup := by
  unfold onceB
  rw [decide_eq_true_eq]
  have e : (fun s : ByteArray => s.data.toList) = ByteArray.toList := funext fun s => (toList_data s).symm
  rw [e]
  exact ⟨fun h => (List.pairwise_map.1 h).imp fun hab e => hab (by rw [e]), fun h => List.Pairwise.map _ (fun a b hab hc => hab (toList_inj.1 hc)) h⟩
def chainC (cs : List Class) : Nat → ByteArray → List Class
  | 0, _ => []
  | k + 1, name => match cs.find? (nameIs name) with
    | none => []
    | some c => c :: chainC cs k c.super
theorem named_name : namedB = nameIs := rfl
theorem find_name {cs : List Class} {name : ByteArray} {c : Class} (h : cs.find? (nameIs name) = some c) : c.name = name ∧ c ∈ cs := by
  refine ⟨?_, List.mem_of_find?_eq_some h⟩
  have := List.find?_some h
  exact beq_bytes.1 this
theorem findJ_find (cs : List Class) (name : ByteArray) : (∀ j, findJ cs name = some j → cs[j]? = cs.find? (nameIs name) ∧ (cs.find? (nameIs name)).isSome = true) ∧ (findJ cs name = none → cs.find? (nameIs name) = none) := by
  obtain ⟨h1, h2⟩ := idx_find (namedB name) cs
  rw [named_name] at h1 h2
  unfold findJ
  rw [named_name]
  refine ⟨fun j hj => ?_, fun h => ?_⟩
  · split at hj
    · rename_i hi
      cases hj
      obtain ⟨x, hx, -⟩ := idxB_spec (nameIs name) cs hi
      exact ⟨h2 hi, by rw [← h2 hi, hx]; rfl⟩
    · cases hj
  · split at h
    · cases h
    · rename_i hi; exact h1 (by omega)
theorem upX_chain (cs : List Class) : ∀ (k m : Nat) (name : ByteArray), ∃ f : Nat → Nat, upX cs k m name = (List.range (chainC cs k name).length).map (fun i => (m + i, f i)) ∧ ∀ i, i < (chainC cs k name).length → cs[f i]? = (chainC cs k name)[i]?
  | 0, m, name => ⟨fun _ => 0, rfl, fun i h => by simp [chainC] at h⟩
  | k + 1, m, name => by
    obtain ⟨h1, h2⟩ := findJ_find cs name
    unfold upX
    cases hj : findJ cs name with
    | none =>
      have := h2 hj
      exact ⟨fun _ => 0, by simp [chainC, this], fun i h => by simp [chainC, this] at h⟩
    | some j =>
      obtain ⟨h3, h4⟩ := h1 j hj
      obtain ⟨c, hc⟩ := Option.isSome_iff_exists.1 h4
      rw [hc] at h3
      have hs : superOf cs j = c.super := by simp [superOf, h3]
      obtain ⟨f, h5, h6⟩ := upX_chain cs k (m + 1) c.super
      refine ⟨fun i => if i = 0 then j else f (i - 1), ?_, fun i hi => ?_⟩
      · dsimp only
        rw [hs, h5]
        simp only [chainC, hc, List.length_cons, List.range_succ_eq_map, List.map_cons, List.map_map]
        congr 1
        refine List.map_congr_left fun i _ => ?_
        simp [Nat.add_assoc, Nat.add_comm 1 i]
      · simp only [chainC, hc, List.length_cons] at hi ⊢
        cases i with
        | zero => simpa using h3
        | succ i => simpa using h6 i (by omega)
theorem chainF_chain (cs : List Class) : ∀ (k : Nat) (name : ByteArray), chainF cs k name = (chainC cs k name).map (·.name)
  | 0, _ => rfl
  | k + 1, name => by
    unfold chainF chainC
    cases h : cs.find? (nameIs name) with
    | none => rfl
    | some c => simp [chainF_chain cs k c.super, (find_name h).1]
theorem chainC_mem (cs : List Class) : ∀ (k : Nat) (name : ByteArray), ∀ d ∈ chainC cs k name, d ∈ cs ∧ cs.find? (nameIs d.name) = some d
  | 0, _, d, hd => by simp [chainC] at hd
  | k + 1, name, d, hd => by
    unfold chainC at hd
    cases h : cs.find? (nameIs name) with
    | none => rw [h] at hd; simp at hd
    | some c =>
      rw [h] at hd
      rcases List.mem_cons.1 hd with rfl | hd
      · obtain ⟨h1, h2⟩ := find_name h
        exact ⟨h2, by rw [h1]; exact h⟩
      · exact chainC_mem cs k c.super d hd
theorem chainC_len (cs : List Class) (k : Nat) (name : ByteArray) : (chainC cs k name).length ≤ k := by
  have := V.chainF_len cs k name
  rw [chainF_chain, List.length_map] at this
  exact this
theorem chainC_more (cs : List Class) : ∀ (k a : Nat) (name : ByteArray), (chainC cs k name).length < k → chainC cs (k + a) name = chainC cs k name
  | 0, a, name, h => by omega
  | k + 1, a, name, h => by
    rw [Nat.add_right_comm]
    unfold chainC at h ⊢
    cases hf : cs.find? (nameIs name) with
    | none => rfl
    | some c =>
      rw [hf] at h
      simp only [List.length_cons] at h
      simp only
      rw [chainC_more cs k a c.super (by omega)]
theorem chainC_drop (cs : List Class) : ∀ (k i : Nat) (name : ByteArray) (d : Class), (chainC cs k name)[i]? = some d → (chainC cs k name).drop i = chainC cs (k - i) d.name
  | 0, i, name, d, h => by simp [chainC] at h
  | k + 1, 0, name, d, h => by
    rw [List.drop_zero, Nat.sub_zero]
    unfold chainC at h ⊢
    cases hf : cs.find? (nameIs name) with
    | none => rw [hf] at h; simp at h
    | some c =>
      rw [hf] at h
      simp at h; subst h
      rw [(find_name hf).1, hf]
  | k + 1, i + 1, name, d, h => by
    cases hf : cs.find? (nameIs name) with
    | none => simp [chainC, hf] at h
    | some c =>
      have e : chainC cs (k + 1) name = c :: chainC cs k c.super := by
        conv => lhs; unfold chainC
        rw [hf]
      rw [e] at h ⊢
      rw [List.getElem?_cons_succ] at h
      rw [List.drop_succ_cons, Nat.add_sub_add_right]
      exact chainC_drop cs k i c.super d h
theorem classD_of {cs : List Class} {d : Class} (h : cs.find? (nameIs d.name) = some d) : classD cs d.name = d := by unfold classD; rw [h]; rfl
theorem likeB_alike (x y : Method) : likeB x y = alikeB x y := rfl
theorem alike_refl (x : Method) : alikeB x x = true := by simp [alikeB]
theorem alike_iff {x y : Method} : alikeB x y = true ↔ x.type.toList = y.type.toList ∧ typesOf x.params = typesOf y.params := by simp [alikeB]
theorem alike_trans {x y z : Method} (h : alikeB x y = true) (k : alikeB y z = true) : alikeB x z = true := by
  rw [alike_iff] at *; exact ⟨h.1.trans k.1, h.2.trans k.2⟩
theorem upX_all {cs : List Class} {c : Class} (k m : Nat) (name : ByteArray) : (upX cs k m name).all (roundB cs c) = true ↔ ∀ i d, (chainC cs k name)[i]? = some d → topB cs c (m + i) d = true := by
  obtain ⟨f, h1, h2⟩ := upX_chain cs k m name
  rw [h1, List.all_eq_true]
  constructor
  · intro h i d hd
    have hi := (List.getElem?_eq_some_iff.1 hd).1
    have := h (m + i, f i) (List.mem_map.2 ⟨i, List.mem_range.2 hi, rfl⟩)
    rwa [roundB_at ((h2 i hi).trans hd)] at this
  · intro h x hx
    obtain ⟨i, hi, rfl⟩ := List.mem_map.1 hx
    have hi := List.mem_range.1 hi
    have hd := List.getElem?_eq_getElem hi
    rw [roundB_at ((h2 i hi).trans hd)]
    exact h i _ hd
theorem fieldsUp_chain (cs : List Class) (k m : Nat) (name : ByteArray) : fieldsUp cs (upX cs k m name) = (chainC cs k name).flatMap fun d => namesL d.fields := by
  obtain ⟨f, h1, h2⟩ := upX_chain cs k m name
  rw [h1]
  unfold fieldsUp
  have : ∀ (l : List Class), (∀ i, i < l.length → cs[f i]? = l[i]?) → ((List.range l.length).map fun i => (m + i, f i)).flatMap (fieldsAt cs) = l.flatMap fun d => namesL d.fields := by
    intro l h
    have e : (List.range l.length).map (fun i => fieldsAt cs (m + i, f i)) = l.map fun d => namesL d.fields := by
      refine List.ext_getElem? fun i => ?_
      by_cases hi : i < l.length
      · simp only [List.getElem?_map, List.getElem?_range hi, Option.map_some]
        rw [List.getElem?_eq_getElem hi]
        simp [fieldsAt, h i hi, List.getElem?_eq_getElem hi]
      · rw [List.getElem?_eq_none (by simpa using Nat.not_lt.1 hi), List.getElem?_eq_none (by simpa using Nat.not_lt.1 hi)]
    rw [List.flatMap_def, List.map_map, List.flatMap_def]
    exact congrArg List.flatten e
  exact this _ h2
theorem upNames_chain (cs : List Class) (k m : Nat) (name : ByteArray) : upNames cs (upX cs k m name) = (chainC cs k name).map (·.name) := by
  obtain ⟨f, h1, h2⟩ := upX_chain cs k m name
  rw [h1]
  unfold upNames
  have : ∀ (l : List Class), (∀ i, i < l.length → cs[f i]? = l[i]?) → ((List.range l.length).map fun i => (m + i, f i)).flatMap (nameAt cs) = l.map (·.name) := by
    intro l h
    have e : (List.range l.length).map (fun i => nameAt cs (m + i, f i)) = l.map fun d => [d.name] := by
      refine List.ext_getElem? fun i => ?_
      by_cases hi : i < l.length
      · simp only [List.getElem?_map, List.getElem?_range hi, Option.map_some]
        rw [List.getElem?_eq_getElem hi]
        simp [nameAt, h i hi, List.getElem?_eq_getElem hi]
      · rw [List.getElem?_eq_none (by simpa using Nat.not_lt.1 hi), List.getElem?_eq_none (by simpa using Nat.not_lt.1 hi)]
    rw [List.flatMap_def, List.map_map]
    have e2 := congrArg List.flatten e
    refine e2.trans ?_
    clear e e2 h
    induction l with
    | nil => rfl
    | cons x l ih => simp [ih]
  exact this _ h2
theorem twice_iff (l : List Slot) : twiceB l = false ↔ (namesL l).Nodup := by
  unfold twiceB namesL
  rw [List.any_eq_false, List.Nodup, List.pairwise_map, List.pairwise_iff_getElem]
  constructor
  · intro h i j hi hj hij e
    have h1 := h j (List.mem_range.2 hj)
    refine h1 (List.any_eq_true.2 ⟨i, List.mem_range.2 hij, ?_⟩)
    simp [eqAt, List.getElem?_eq_getElem hi, List.getElem?_eq_getElem hj, e]
  · intro h j hj hc
    have hj := List.mem_range.1 hj
    obtain ⟨i, hi, he⟩ := List.any_eq_true.1 hc
    have hij := List.mem_range.1 hi
    have hil : i < l.length := by omega
    have hne := h i j hil hj hij
    simp only [eqAt, List.getElem?_eq_getElem hil, List.getElem?_eq_getElem hj] at he
    exact hne (beq_bytes.1 he).symm
theorem nodup_rows {α : Type} (l : List α) (g : α → ByteArray) : (∀ i x, l[i]? = some x → ((l.take i).any fun o => (g o).toList == (g x).toList) = false) ↔ (l.map g).Nodup := by
  rw [List.Nodup, List.pairwise_map, List.pairwise_iff_getElem]
  constructor
  · intro h i j hi hj hij e
    have h1 := h j l[j] (List.getElem?_eq_getElem hj)
    rw [List.any_eq_false] at h1
    refine h1 l[i] ?_ (beq_bytes.2 e)
    refine List.mem_of_getElem? (i := i) ?_
    rw [List.getElem?_take, if_pos hij]
    exact List.getElem?_eq_getElem hi
  · intro h j x hx
    rw [List.any_eq_false]
    intro o ho hc
    obtain ⟨i, hi⟩ := List.getElem?_of_mem ho
    rw [List.getElem?_take] at hi
    split at hi
    · rename_i hij
      have hj := (List.getElem?_eq_some_iff.1 hx).1
      have hil := (List.getElem?_eq_some_iff.1 hi).1
      have e1 : l[i] = o := (List.getElem?_eq_some_iff.1 hi).2
      have e2 : l[j] = x := (List.getElem?_eq_some_iff.1 hx).2
      have := h i j hil hj hij
      rw [e1, e2] at this
      exact this (beq_bytes.1 hc)
    · cases hi
def nextM (name : ByteArray) : List Class → Option Method
  | [] => none
  | d :: l => match d.methods.find? (methIs name) with | some x => some x | none => nextM name l
theorem methodF_next {cs : List Class} (name : ByteArray) : ∀ l : List Class, (∀ d ∈ l, cs.find? (nameIs d.name) = some d) → (methodF cs name (l.map (·.name))).map (·.1) = nextM name l
  | [], _ => rfl
  | d :: l, h => by
    simp only [List.map_cons, methodF, nextM]
    rw [classD_of (h d (by simp))]
    cases d.methods.find? (methIs name) with
    | some x => rfl
    | none => exact methodF_next name l fun d hd => h d (List.mem_cons_of_mem _ hd)
structure Same0 (cs : List Class) : Prop where
  names : (cs.map (·.name)).Nodup
  sup : ∀ c ∈ cs, c.super.toList = [] ∨ (cs.find? (nameIs c.super)).isSome = true
  len : ∀ c ∈ cs, (chainC cs (cs.length + 1) c.name).length ≤ cs.length
  fields : ∀ c ∈ cs, ((chainC cs (cs.length + 1) c.name).flatMap fun d => namesL d.fields).Nodup
  own : ∀ c ∈ cs, (c.methods.map (·.name)).Nodup
  params : ∀ c ∈ cs, ∀ m ∈ c.methods, (namesL m.params).Nodup
def RefM (cs : List Class) : Prop := ∀ c ∈ cs, ∀ m ∈ c.methods, ∀ o, nextM m.name ((chainC cs (cs.length + 1) c.name).drop 1) = some o → alikeB m o = true
def ProgM (cs : List Class) : Prop := ∀ c ∈ cs, ∀ m ∈ c.methods, ∀ (i : Nat) d, (chainC cs (cs.length + 1) c.name)[i]? = some d → fitsB m d.methods = true
theorem find_uniq {cs : List Class} (h : (cs.map (·.name)).Nodup) {c : Class} (hc : c ∈ cs) : cs.find? (nameIs c.name) = some c := by
  obtain ⟨d, hd⟩ := find_self hc
  rw [hd]
  obtain ⟨h1, h2⟩ := find_name hd
  obtain ⟨i, hi⟩ := List.getElem?_of_mem hc
  obtain ⟨j, hj⟩ := List.getElem?_of_mem h2
  have hi' := (List.getElem?_eq_some_iff.1 hi)
  have hj' := (List.getElem?_eq_some_iff.1 hj)
  rw [List.Nodup, List.pairwise_map, List.pairwise_iff_getElem] at h
  rcases Nat.lt_trichotomy i j with hij | hij | hij
  · exact absurd (by rw [hi'.2, hj'.2]; exact h1.symm) (h i j hi'.1 hj'.1 hij)
  · subst hij; rw [hi] at hj; exact hj.symm
  · exact absurd (by rw [hi'.2, hj'.2]; exact h1) (h j i hj'.1 hi'.1 hij)
theorem next_at {name : ByteArray} : ∀ {l : List Class} {o : Method}, nextM name l = some o → ∃ (i : Nat) (d : Class), l[i]? = some d ∧ d.methods.find? (methIs name) = some o ∧ ∀ j e, j < i → l[j]? = some e → e.methods.find? (methIs name) = none
  | [], o, h => by cases h
  | d :: l, o, h => by
    simp only [nextM] at h
    cases hf : d.methods.find? (methIs name) with
    | some x => rw [hf] at h; cases h; exact ⟨0, d, rfl, hf, fun j e hj => by omega⟩
    | none =>
      rw [hf] at h
      obtain ⟨i, e, h1, h2, h3⟩ := next_at h
      refine ⟨i + 1, e, by simpa using h1, h2, fun j f hj he => ?_⟩
      cases j with
      | zero => simp at he; subst he; exact hf
      | succ j => exact h3 j f (by omega) (by simpa using he)
theorem next_some {name : ByteArray} : ∀ {l : List Class} {i : Nat} {d : Class} {o : Method}, l[i]? = some d → d.methods.find? (methIs name) = some o → ∃ o', nextM name l = some o'
  | [], i, d, o, h, _ => by simp at h
  | e :: l, 0, d, o, h, k => by simp at h; subst h; exact ⟨o, by simp [nextM, k]⟩
  | e :: l, i + 1, d, o, h, k => by
    simp only [nextM]
    cases e.methods.find? (methIs name) with
    | some x => exact ⟨x, rfl⟩
    | none => exact next_some (by simpa using h) k
theorem meth_of {l : List Method} {name : ByteArray} {o : Method} (h : l.find? (methIs name) = some o) : o ∈ l ∧ o.name = name := ⟨List.mem_of_find?_eq_some h, by have := List.find?_some h; exact beq_bytes.1 this⟩
theorem meth_uniq {l : List Method} (h : (l.map (·.name)).Nodup) {m : Method} (hm : m ∈ l) : l.find? (methIs m.name) = some m := by
  cases hf : l.find? (methIs m.name) with
  | none =>
    have := List.find?_eq_none.1 hf m hm
    simp [methIs] at this
  | some o =>
    obtain ⟨h1, h2⟩ := meth_of hf
    obtain ⟨i, hi⟩ := List.getElem?_of_mem hm
    obtain ⟨j, hj⟩ := List.getElem?_of_mem h1
    have hi' := (List.getElem?_eq_some_iff.1 hi)
    have hj' := (List.getElem?_eq_some_iff.1 hj)
    rw [List.Nodup, List.pairwise_map, List.pairwise_iff_getElem] at h
    rcases Nat.lt_trichotomy i j with hij | hij | hij
    · exact absurd (by rw [hi'.2, hj'.2]; exact h2.symm) (h i j hi'.1 hj'.1 hij)
    · subst hij; rw [hi] at hj; exact hj.symm
    · exact absurd (by rw [hi'.2, hj'.2]; exact h2) (h j i hj'.1 hi'.1 hij)
theorem fits_iff {m : Method} {l : List Method} : fitsB m l = true ↔ ∀ o, l.find? (methIs m.name) = some o → alikeB m o = true := by
  unfold fitsB
  have e : methB m.name = methIs m.name := rfl
  rw [e]
  cases l.find? (methIs m.name) with
  | none => simp
  | some o => simp
theorem refM_progM {cs : List Class} (h0 : Same0 cs) : RefM cs ↔ ProgM cs := by
  constructor
  · intro hR
    -- by how far above it stands
    have key : ∀ n, ∀ c ∈ cs, ∀ m ∈ c.methods, ∀ (i : Nat) d, i ≤ n → (chainC cs (cs.length + 1) c.name)[i]? = some d → fitsB m d.methods = true := by
      intro n
      induction n with
      | zero =>
        intro c hc m hm i d hi hd
        obtain rfl : i = 0 := by omega
        have hf := find_uniq h0.names hc
        have : d = c := by
          have h1 : chainC cs (cs.length + 1) c.name = c :: chainC cs cs.length c.super := by
            conv => lhs; unfold chainC
            rw [hf]
          rw [h1] at hd
          simpa using hd.symm
        subst this
        rw [fits_iff]
        intro o ho
        rw [meth_uniq (h0.own d hc) hm] at ho
        cases ho
        exact alike_refl m
      | succ n ih =>
        intro c hc m hm i d hi hd
        rcases Nat.lt_or_ge i (n + 1) with h1 | h1
        · exact ih c hc m hm i d (by omega) hd
        · obtain rfl : i = n + 1 := by omega
          rw [fits_iff]
          intro o ho
          have hd1 : ((chainC cs (cs.length + 1) c.name).drop 1)[n]? = some d := by rw [List.getElem?_drop, Nat.add_comm 1 n]; exact hd
          obtain ⟨o', ho'⟩ := next_some hd1 ho
          have hlike := hR c hc m hm o' ho'
          obtain ⟨q, e, he, hf, hbefore⟩ := next_at ho'
          rw [List.getElem?_drop] at he
          rcases Nat.lt_trichotomy q n with hq | hq | hq
          · -- the next one stands below: from there on
            obtain ⟨hem, hef⟩ := chainC_mem cs _ _ e (List.mem_of_getElem? he)
            obtain ⟨ho1, ho2⟩ := meth_of hf
            have hdr := chainC_drop cs (cs.length + 1) (1 + q) c.name e he
            have hlen := h0.len c hc
            have hmore : chainC cs (cs.length + 1) e.name = (chainC cs (cs.length + 1) c.name).drop (1 + q) := by
              rw [hdr]
              have hl : (chainC cs (cs.length + 1 - (1 + q)) e.name).length < cs.length + 1 - (1 + q) := by
                rw [← hdr, List.length_drop]
                have := (List.getElem?_eq_some_iff.1 he).1
                omega
              have := chainC_more cs (cs.length + 1 - (1 + q)) (1 + q) e.name hl
              rw [show cs.length + 1 - (1 + q) + (1 + q) = cs.length + 1 by have := (List.getElem?_eq_some_iff.1 he).1; omega] at this
              exact this
            have hd2 : (chainC cs (cs.length + 1) e.name)[n + 1 - (1 + q)]? = some d := by
              rw [hmore, List.getElem?_drop]
              rw [show 1 + q + (n + 1 - (1 + q)) = n + 1 by omega]
              exact hd
            have := ih e hem o' ho1 (n + 1 - (1 + q)) d (by omega) hd2
            rw [fits_iff, ho2] at this
            exact alike_trans hlike (this o ho)
          · subst hq
            rw [Nat.add_comm 1 q] at he
            rw [hd] at he
            cases he
            rw [hf] at ho
            cases ho
            exact hlike
          · have := hbefore n d hq hd1
            rw [this] at ho
            cases ho
    exact fun c hc m hm i d hd => key i c hc m hm i d (Nat.le_refl _) hd
  · intro hP c hc m hm o ho
    obtain ⟨i, d, h1, h2, -⟩ := next_at ho
    rw [List.getElem?_drop] at h1
    have := hP c hc m hm _ d h1
    rw [fits_iff] at this
    exact this o h2
end V
end Go.Proofs.Ytjciafpihdbedaa
end
section
set_option linter.unusedVariables false
set_option linter.unusedSimpArgs false
namespace Go.Proofs.Ytjciafpihdbedaa
namespace V
theorem names_iff {cs : List Class} : namesB cs = true ↔ (cs.map (·.name)).Nodup ∧ ∀ c ∈ cs, c.super.toList = [] ∨ (cs.find? (nameIs c.super)).isSome = true := by
  rw [← nodup_rows]
  unfold namesB
  rw [List.all_eq_true]
  have row : ∀ i c, cs[i]? = some c → (nameRowB cs i = true ↔ ((cs.take i).any fun o => o.name.toList == c.name.toList) = false ∧ (c.super.toList = [] ∨ (cs.find? (nameIs c.super)).isSome = true)) := by
    intro i c hc
    have e : ((cs.take i).any fun d => c.name.toList == d.name.toList) = ((cs.take i).any fun o => o.name.toList == c.name.toList) := by
      congr 1; funext d; exact BEq.comm
    unfold nameRowB
    rw [hc]
    dsimp only
    rw [e]
    simp only [Bool.and_eq_true, Bool.not_eq_true', Bool.or_eq_true, beq_iff_eq]
  constructor
  · intro h
    refine ⟨fun i c hc => ((row i c hc).1 (h i (List.mem_range.2 (List.getElem?_eq_some_iff.1 hc).1))).1, fun c hm => ?_⟩
    obtain ⟨i, hc⟩ := List.getElem?_of_mem hm
    exact ((row i c hc).1 (h i (List.mem_range.2 (List.getElem?_eq_some_iff.1 hc).1))).2
  · rintro ⟨h1, h2⟩ i hi
    have hc := List.getElem?_eq_getElem (List.mem_range.1 hi)
    exact (row i _ hc).2 ⟨h1 i _ hc, h2 _ (List.mem_of_getElem? hc)⟩
theorem fieldsF_perm {cs : List Class} (l : List Class) (h : ∀ d ∈ l, cs.find? (nameIs d.name) = some d) : (namesL (fieldsF cs (l.map (·.name)))).Nodup ↔ (l.flatMap fun d => namesL d.fields).Nodup := by
  have e : namesL (fieldsF cs (l.map (·.name))) = l.reverse.flatMap fun d => namesL d.fields := by
    unfold fieldsF namesL
    rw [← List.map_reverse, List.map_flatMap, List.flatMap_map]
    have : ∀ l' : List Class, (∀ d ∈ l', d ∈ l) → (l'.flatMap fun d => ((classD cs d.name).fields.map (·.name))) = l'.flatMap fun d => d.fields.map (·.name) := by
      intro l'
      induction l' with
      | nil => intro _; rfl
      | cons d l' ih =>
        intro hm
        rw [List.flatMap_cons, List.flatMap_cons, ih fun x hx => hm x (List.mem_cons_of_mem _ hx), classD_of (h d (hm d (by simp)))]
    exact this _ fun d hd => List.mem_reverse.1 hd
  rw [e]
  exact (List.Perm.flatMap_right _ (List.reverse_perm l)).nodup_iff
theorem methods_iff {cs : List Class} (k : Nat) (name : ByteArray) (j : Nat) (l : List Method) : methodsB cs ((chainF cs k name).drop j) l = true ↔ (l.map (·.name)).Nodup ∧ ∀ m ∈ l, (namesL m.params).Nodup ∧ ∀ o, nextM m.name ((chainC cs k name).drop j) = some o → alikeB m o = true := by
  rw [← nodup_rows, chainF_chain, ← List.map_drop]
  have hmem : ∀ d ∈ (chainC cs k name).drop j, cs.find? (nameIs d.name) = some d := fun d hd => (chainC_mem cs k name d (List.mem_of_mem_drop hd)).2
  generalize (chainC cs k name).drop j = ab at hmem ⊢
  unfold methodsB
  rw [List.all_eq_true]
  have row : ∀ i x, l[i]? = some x → (methRowB cs (ab.map (·.name)) l i = true ↔ ((l.take i).any fun o => o.name.toList == x.name.toList) = false ∧ (namesL x.params).Nodup ∧ ∀ o, nextM x.name ab = some o → alikeB x o = true) := by
    intro i x hx
    have hn := methodF_next x.name ab hmem
    unfold methRowB
    rw [hx]
    dsimp only
    rw [← twice_iff]
    cases hm : methodF cs x.name (ab.map (·.name)) with
    | none =>
      rw [hm] at hn
      rw [← hn]
      simp
    | some q =>
      rw [hm] at hn
      rw [← hn]
      obtain ⟨o, n⟩ := q
      simp only [Option.map_some, Bool.and_eq_true, Bool.not_eq_true', Bool.or_eq_false_iff, Option.some.injEq, forall_eq', Bool.not_eq_false', likeB_alike]
      constructor
      · rintro ⟨a, b, c⟩; exact ⟨a, c, b⟩
      · rintro ⟨a, b, c⟩; exact ⟨a, c, b⟩
  constructor
  · intro h
    refine ⟨fun i x hx => ((row i x hx).1 (h i (List.mem_range.2 (List.getElem?_eq_some_iff.1 hx).1))).1, fun x hm => ?_⟩
    obtain ⟨i, hx⟩ := List.getElem?_of_mem hm
    exact ((row i x hx).1 (h i (List.mem_range.2 (List.getElem?_eq_some_iff.1 hx).1))).2
  · rintro ⟨h1, h2⟩ i hi
    have hx := List.getElem?_eq_getElem (List.mem_range.1 hi)
    exact (row i _ hx).2 ⟨h1 i _ hx, h2 _ (List.mem_of_getElem? hx)⟩
theorem ref_iff {cs : List Class} : (namesB cs = true ∧ (List.range cs.length).all (classRowB cs) = true) ↔ Same0 cs ∧ RefM cs := by
  rw [names_iff, List.all_eq_true]
  have row : ∀ i c, cs[i]? = some c → (classRowB cs i = true ↔ (chainC cs (cs.length + 1) c.name).length ≤ cs.length ∧ ((chainC cs (cs.length + 1) c.name).flatMap fun d => namesL d.fields).Nodup ∧ (c.methods.map (·.name)).Nodup ∧ ∀ m ∈ c.methods, (namesL m.params).Nodup ∧ ∀ o, nextM m.name ((chainC cs (cs.length + 1) c.name).drop 1) = some o → alikeB m o = true) := by
    intro i c hc
    unfold classRowB
    rw [hc]
    dsimp only
    rw [Bool.and_eq_true, methods_iff, Bool.not_eq_true', Bool.or_eq_false_iff, twice_iff, chainF_chain, List.length_map, decide_eq_false_iff_not, Nat.not_lt,
      fieldsF_perm _ (fun d hd => (chainC_mem cs _ _ d hd).2), and_assoc]
  constructor
  · rintro ⟨⟨h1, h2⟩, h3⟩
    have R := fun c (hm : c ∈ cs) => (List.getElem?_of_mem hm).elim fun i hc => (row i c hc).1 (h3 i (List.mem_range.2 (List.getElem?_eq_some_iff.1 hc).1))
    exact ⟨⟨h1, h2, fun c hc => (R c hc).1, fun c hc => (R c hc).2.1, fun c hc => (R c hc).2.2.1, fun c hc m hm => ((R c hc).2.2.2 m hm).1⟩, fun c hc m hm => ((R c hc).2.2.2 m hm).2⟩
  · rintro ⟨h, hR⟩
    refine ⟨⟨h.names, h.sup⟩, fun i hi => ?_⟩
    have hx := List.getElem?_eq_getElem (List.mem_range.1 hi)
    have hm := List.mem_of_getElem? hx
    exact (row i _ hx).2 ⟨h.len _ hm, h.fields _ hm, h.own _ hm, fun m hmm => ⟨h.params _ hm m hmm, hR _ hm m hmm⟩⟩
theorem chainC_self {cs : List Class} {c : Class} (h : cs.find? (nameIs c.name) = some c) (k : Nat) : chainC cs (k + 1) c.name = c :: chainC cs k c.super := by
  conv => lhs; unfold chainC
  rw [h]
theorem any_named {cs : List Class} {n : ByteArray} : cs.any (namedB n) = true ↔ (cs.find? (nameIs n)).isSome = true := by
  rw [named_name, List.find?_isSome, List.any_eq_true]
theorem top_iff {cs : List Class} {c d : Class} {m : Nat} : topB cs c m d = true ↔ m ≠ cs.length ∧ (d.super.toList = [] ∨ (cs.find? (nameIs d.super)).isSome = true) ∧ ∀ y ∈ c.methods, fitsB y d.methods = true := by
  unfold topB
  rw [Bool.and_eq_true, Bool.and_eq_true, Bool.or_eq_true, any_named, List.all_eq_true, List.isEmpty_iff, Bool.not_eq_true', decide_eq_false_iff_not, and_assoc]
theorem prog_iff {cs : List Class} : (onceB (cs.map (·.name)) = true ∧ ∀ c ∈ cs, okClassB cs c = true) ↔ Same0 cs ∧ ProgM cs := by
  have row : ∀ c, okClassB cs c = true ↔ (∀ i d, (chainC cs (cs.length + 1) c.name)[i]? = some d → topB cs c (0 + i) d = true) ∧ (∀ m ∈ c.methods, (namesL m.params).Nodup) ∧ ((chainC cs (cs.length + 1) c.name).flatMap fun d => namesL d.fields).Nodup ∧ (c.methods.map (·.name)).Nodup := by
    intro c
    unfold okClassB
    rw [Bool.and_eq_true, Bool.and_eq_true, Bool.and_eq_true, upX_all, List.all_eq_true, fieldsUp_chain, onceB_iff, onceB_iff, and_assoc, and_assoc]
    simp only [onceB_iff]
  rw [onceB_iff]
  constructor
  · rintro ⟨h1, h2⟩
    have R := fun c hc => (row c).1 (h2 c hc)
    refine ⟨⟨h1, fun c hc => ?_, fun c hc => ?_, fun c hc => (R c hc).2.2.1, fun c hc => (R c hc).2.2.2, fun c hc => (R c hc).2.1⟩, fun c hc m hm i d hd => ?_⟩
    · have hf := find_uniq h1 hc
      have : (chainC cs (cs.length + 1) c.name)[0]? = some c := by rw [chainC_self hf]; rfl
      exact (top_iff.1 ((R c hc).1 0 c this)).2.1
    · rcases Nat.lt_or_ge cs.length (chainC cs (cs.length + 1) c.name).length with hl | hl
      · have := (top_iff.1 ((R c hc).1 cs.length _ (List.getElem?_eq_getElem hl))).1
        rw [Nat.zero_add] at this
        exact absurd rfl this
      · exact hl
    · exact (top_iff.1 ((R c hc).1 i d hd)).2.2 m hm
  · rintro ⟨h, hP⟩
    refine ⟨h.names, fun c hc => (row c).2 ⟨fun i d hd => ?_, h.params c hc, h.fields c hc, h.own c hc⟩⟩
    refine top_iff.2 ⟨?_, h.sup d (chainC_mem cs _ _ d (List.mem_of_getElem? hd)).1, fun y hy => hP c hc y hy i d hd⟩
    have := (List.getElem?_eq_some_iff.1 hd).1
    have := h.len c hc
    omega
theorem err_eq (e : Int) (cs : List Class) : chkErr e cs = refErr e cs := by
  have key : (onceB (cs.map (·.name)) = true ∧ ∀ c ∈ cs, okClassB cs c = true) ↔ (namesB cs = true ∧ (List.range cs.length).all (classRowB cs) = true) := by
    rw [ref_iff, prog_iff]
    exact ⟨fun h => ⟨h.1, (refM_progM h.1).2 h.2⟩, fun h => ⟨h.1, (refM_progM h.1).1 h.2⟩⟩
  have ha : (cs.any (fun c => !okClassB cs c) = true) ↔ ¬ ∀ c ∈ cs, okClassB cs c = true := by
    rw [← List.all_eq_true, List.any_eq_not_all_not]
    simp
  unfold chkErr refErr
  split
  · split
    · rfl
    · by_cases h1 : onceB (cs.map (·.name)) = true
      · rw [if_neg (by rw [h1]; decide)]
        by_cases h2 : ∀ c ∈ cs, okClassB cs c = true
        · rw [if_neg (fun h => ha.1 h h2)]
          obtain ⟨k1, k2⟩ := key.1 ⟨h1, h2⟩
          rw [if_neg (by rw [k1]; decide), if_pos k2]
        · rw [if_pos (ha.2 h2)]
          split
          · rfl
          · rename_i k1
            rw [if_neg (fun k2 => h2 (key.2 ⟨by simpa using k1, k2⟩).2)]
      · rw [if_pos (by simpa using h1)]
        split
        · rfl
        · rename_i k1
          rw [if_neg (fun k2 => h1 (key.2 ⟨by simpa using k1, k2⟩).1)]
  · rfl
theorem chain_eq (E : Int) (cs : List Class) (n : ByteArray) : chainR E cs n = refChainF E cs n := by
  unfold chainR refChainF
  rw [upNames_chain, chainF_chain]
theorem chkErr_zero {e : Int} {cs : List Class} (h : chkErr e cs = 0) : Same0 cs := by
  unfold chkErr at h
  split at h
  · split at h
    · exact absurd h (by decide)
    · split at h
      · exact absurd h (by decide)
      · split at h
        · exact absurd h (by decide)
        · rename_i h1 h2
          refine (prog_iff.1 ⟨by simpa using h1, fun c hc => ?_⟩).1
          cases hk : okClassB cs c with
          | true => rfl
          | false => exact absurd (List.any_eq_true.2 ⟨c, hc, by rw [hk]; rfl⟩) h2
  · rename_i h1; exact absurd h h1
end V
end Go.Proofs.Ytjciafpihdbedaa
end
section
set_option linter.unusedVariables false
set_option linter.unusedSimpArgs false
namespace Go.Proofs.Ytjciafpihdbedaa
namespace V
open Go.RowKit
set_option linter.unusedSimpArgs false
def b1 (n : UInt8) : ByteArray := ⟨#[n]⟩
def sInt : ByteArray := ⟨#[105, 110, 116]⟩
def threeP : Program := ⟨[⟨b1 65, ⟨#[]⟩, [⟨sInt, b1 102⟩], [⟨sInt, b1 109, [], []⟩]⟩, ⟨b1 66, b1 65, [], []⟩, ⟨b1 67, b1 66, [], []⟩], []⟩
set_option maxHeartbeats 1000000 in
theorem three_ok (m : Mem) : COk Try.prog 19 [] m (.agg (cProg threeP)) := by
  refine (ok_pure tab_ok Try.func19 (by kernel_rfl) rfl rfl (by rfl) (by rfl) (by rfl) (fun R hkeep => ?_) m)
  repeat (first | refine W.seq ?_ | refine W.block ?_ | refine W.skip ?_ | refine W.exit ?_ | refine W.region tab_ok 0 (by decide) (exec_run (by simp only [exec, stepQ, wantA, yieldA, kind, qv, qv1, qv2, stO, adrId, dataC, replC, eqNil, binNil, shiftInt, A.down, A1.up, downs, toR, ev, putS, rowO, ofConst, cellsA, cellsC, asC, asCs, ld, ldR, bin, binInt, binStr, binBool, sliceOf, bndOf, repl, fillC, zeroC, chunks, ptrIds, tabs, upd_app, mem_nil_app, entry_zero, entry_succ, entry_nil, top_app, maxStr, ByteArray.size, A.kill, O.kill, killS_app, killM_app, Nat.reduceAdd, Nat.reduceLeDiff, Nat.reduceEqDiff, Nat.reduceMul, Int.reduceToNat, reduceIte, wf_i64, Int.reduceLE, Int.reduceNeg, beq_self_eq_true, decide_true, decide_false, ybeq_some, ybeq_none, beqT, beqF, empty_toList, exs]; rfl)) ?_)
  refine W.ret ⟨.inr rfl, by rfl, ?_⟩
  simp only [Try.f19, resA, resOne, toT, fin, exec, stepQ, wantA, yieldA, kind, qv, qv1, qv2, stO, adrId, dataC, replC, eqNil, binNil, shiftInt, A.down, A1.up, downs, toR, ev, putS, rowO, ofConst, cellsA, cellsC, asC, asCs, ld, ldR, bin, binInt, binStr, binBool, sliceOf, bndOf, repl, fillC, zeroC, chunks, ptrIds, tabs, upd_app, mem_nil_app, entry_zero, entry_succ, entry_nil, top_app, maxStr, ByteArray.size, A.kill, O.kill, killS_app, killM_app, Nat.reduceAdd, Nat.reduceLeDiff, Nat.reduceEqDiff, Nat.reduceMul, Int.reduceToNat, reduceIte, wf_i64, Int.reduceLE, Int.reduceNeg, beq_self_eq_true, decide_true, decide_false, ybeq_some, ybeq_none, beqT, beqF, empty_toList, exs]
  simp [cProg, threeP, cClass, cSlot, cMethod, cStmts, b1, sInt]
theorem three_zero : chkErr 0 threeP.classes = 0 := by decide +kernel
theorem three_chain : chainR 0 threeP.classes (b1 67) = [b1 67, b1 66, b1 65] := by decide +kernel
theorem three_below : belowR 0 threeP.classes (b1 67) (b1 65) = true := by decide +kernel
theorem three_tree : checkB threeP = true := by decide +kernel
theorem small_three : SmallC threeP.classes := by
  intro c hc
  simp only [threeP, List.mem_cons, List.not_mem_nil, or_false] at hc
  rcases hc with rfl | rfl | rfl <;> exact ⟨by decide, by decide, fun m hm => by simp at hm <;> (subst hm; decide)⟩
theorem three_check (m : Mem) : COk Try.prog 9 [.agg (cProg threeP)] m (.c (.int .i64 0)) := by
  have := check_ok threeP 0 small_three (by decide) (fun m => by have := tree_ok threeP m; rw [three_tree] at this; exact this) m
  rw [three_zero] at this
  exact this
set_option maxHeartbeats 1000000 in
theorem live_ok (m : Mem) : COk Try.prog 8 [] m (.c (.bool true)) := by
  refine (ok_pure tab_ok Try.func8 (by kernel_rfl) rfl rfl (by rfl) (by rfl) (by rfl) (fun R hkeep => ?_) m)
  repeat (first | refine W.seq ?_ | refine W.block ?_ | refine W.skip ?_ | refine W.exit ?_ | refine W.region tab_ok 0 (by decide) (exec_run (by simp only [exec, stepQ, wantA, yieldA, kind, qv, qv1, qv2, stO, adrId, dataC, replC, eqNil, binNil, shiftInt, A.down, A1.up, downs, toR, ev, putS, rowO, ofConst, cellsA, cellsC, asC, asCs, ld, ldR, bin, binInt, binStr, binBool, sliceOf, bndOf, repl, fillC, zeroC, chunks, ptrIds, tabs, upd_app, mem_nil_app, entry_zero, entry_succ, entry_nil, top_app, maxStr, ByteArray.size, A.kill, O.kill, killS_app, killM_app, Nat.reduceAdd, Nat.reduceLeDiff, Nat.reduceEqDiff, Nat.reduceMul, Int.reduceToNat, reduceIte, wf_i64, Int.reduceLE, Int.reduceNeg, beq_self_eq_true, decide_true, decide_false, ybeq_some, ybeq_none, beqT, beqF, empty_toList, exs]; rfl)) ?_)
  refine W.regionK tab_ok 0 (by decide) ?_
  refine runk_split 0 (by simp only [exec, stepQ, wantA, yieldA, kind, qv, qv1, qv2, stO, adrId, dataC, replC, eqNil, binNil, shiftInt, A.down, A1.up, downs, toR, ev, putS, rowO, ofConst, cellsA, cellsC, asC, asCs, ld, ldR, bin, binInt, binStr, binBool, sliceOf, bndOf, repl, fillC, zeroC, chunks, ptrIds, tabs, upd_app, mem_nil_app, entry_zero, entry_succ, entry_nil, top_app, maxStr, ByteArray.size, A.kill, O.kill, killS_app, killM_app, Nat.reduceAdd, Nat.reduceLeDiff, Nat.reduceEqDiff, Nat.reduceMul, Int.reduceToNat, reduceIte, wf_i64, Int.reduceLE, Int.reduceNeg, beq_self_eq_true, decide_true, decide_false, ybeq_some, ybeq_none, beqT, beqF, empty_toList, exs]; rfl) ?_
  refine runk_call rfl rfl rfl rfl rfl (by simp) cvs_nil (three_ok _) ?_
  refine runk_split 0 (by simp only [exec, stepQ, wantA, yieldA, kind, qv, qv1, qv2, stO, adrId, dataC, replC, eqNil, binNil, shiftInt, A.down, A1.up, downs, toR, ev, putS, rowO, ofConst, cellsA, cellsC, asC, asCs, ld, ldR, bin, binInt, binStr, binBool, sliceOf, bndOf, repl, fillC, zeroC, chunks, ptrIds, tabs, upd_app, mem_nil_app, entry_zero, entry_succ, entry_nil, top_app, maxStr, ByteArray.size, A.kill, O.kill, killS_app, killM_app, Nat.reduceAdd, Nat.reduceLeDiff, Nat.reduceEqDiff, Nat.reduceMul, Int.reduceToNat, reduceIte, wf_i64, Int.reduceLE, Int.reduceNeg, beq_self_eq_true, decide_true, decide_false, ybeq_some, ybeq_none, beqT, beqF, empty_toList, exs, b1, Int.cast_ofNat_Int]; rfl) ?_
  refine runk_call rfl rfl rfl rfl rfl (by simp) (cvs_cons cv_refl (cvs_cons cv_refl cvs_nil)) (chainP_ok threeP 0 (b1 67) (by decide) three_check _) ?_
  rw [three_chain]
  refine runk_exec (by simp only [exec, stepQ, wantA, yieldA, kind, qv, qv1, qv2, stO, adrId, dataC, replC, eqNil, binNil, shiftInt, A.down, A1.up, downs, toR, ev, putS, rowO, ofConst, cellsA, cellsC, asC, asCs, ld, ldR, bin, binInt, binStr, binBool, sliceOf, bndOf, repl, fillC, zeroC, chunks, ptrIds, tabs, upd_app, mem_nil_app, entry_zero, entry_succ, entry_nil, top_app, maxStr, ByteArray.size, A.kill, O.kill, killS_app, killM_app, Nat.reduceAdd, Nat.reduceLeDiff, Nat.reduceEqDiff, Nat.reduceMul, Int.reduceToNat, reduceIte, wf_i64, Int.reduceLE, Int.reduceNeg, beq_self_eq_true, decide_true, decide_false, ybeq_some, ybeq_none, beqT, beqF, empty_toList, exs]; rfl) ?_
  repeat (first | refine W.seq ?_ | refine W.block ?_ | refine W.skip ?_ | refine W.exit ?_ | refine W.region tab_ok 0 (by decide) (exec_run (by simp only [exec, stepQ, wantA, yieldA, kind, qv, qv1, qv2, stO, adrId, dataC, replC, eqNil, binNil, shiftInt, A.down, A1.up, downs, toR, ev, putS, rowO, ofConst, cellsA, cellsC, asC, asCs, ld, ldR, bin, binInt, binStr, binBool, sliceOf, bndOf, repl, fillC, zeroC, chunks, ptrIds, tabs, upd_app, mem_nil_app, entry_zero, entry_succ, entry_nil, top_app, maxStr, ByteArray.size, A.kill, O.kill, killS_app, killM_app, Nat.reduceAdd, Nat.reduceLeDiff, Nat.reduceEqDiff, Nat.reduceMul, Int.reduceToNat, reduceIte, wf_i64, Int.reduceLE, Int.reduceNeg, beq_self_eq_true, decide_true, decide_false, ybeq_some, ybeq_none, beqT, beqF, empty_toList, exs]; rfl)) ?_)
  refine W.regionK tab_ok 0 (by decide) ?_
  refine runk_split 16 (by simp only [exec, stepQ, wantA, yieldA, kind, qv, qv1, qv2, stO, adrId, dataC, replC, eqNil, binNil, shiftInt, A.down, A1.up, downs, toR, ev, putS, rowO, ofConst, cellsA, cellsC, asC, asCs, ld, ldR, bin, binInt, binStr, binBool, sliceOf, bndOf, repl, fillC, zeroC, chunks, ptrIds, tabs, upd_app, mem_nil_app, entry_zero, entry_succ, entry_nil, top_app, maxStr, ByteArray.size, A.kill, O.kill, killS_app, killM_app, Nat.reduceAdd, Nat.reduceLeDiff, Nat.reduceEqDiff, Nat.reduceMul, Int.reduceToNat, reduceIte, wf_i64, Int.reduceLE, Int.reduceNeg, beq_self_eq_true, decide_true, decide_false, ybeq_some, ybeq_none, beqT, beqF, empty_toList, exs, b1, cStr, Int.cast_ofNat_Int]; rfl) ?_
  refine runk_call rfl rfl rfl rfl rfl (by simp) cvs_nil (three_ok _) ?_
  refine runk_split 0 (by simp only [exec, stepQ, wantA, yieldA, kind, qv, qv1, qv2, stO, adrId, dataC, replC, eqNil, binNil, shiftInt, A.down, A1.up, downs, toR, ev, putS, rowO, ofConst, cellsA, cellsC, asC, asCs, ld, ldR, bin, binInt, binStr, binBool, sliceOf, bndOf, repl, fillC, zeroC, chunks, ptrIds, tabs, upd_app, mem_nil_app, entry_zero, entry_succ, entry_nil, top_app, maxStr, ByteArray.size, A.kill, O.kill, killS_app, killM_app, Nat.reduceAdd, Nat.reduceLeDiff, Nat.reduceEqDiff, Nat.reduceMul, Int.reduceToNat, reduceIte, wf_i64, Int.reduceLE, Int.reduceNeg, beq_self_eq_true, decide_true, decide_false, ybeq_some, ybeq_none, beqT, beqF, empty_toList, exs, b1]; rfl) ?_
  refine runk_call rfl rfl rfl rfl rfl (by simp) (cvs_cons cv_refl (cvs_cons cv_refl (cvs_cons cv_refl cvs_nil))) (below_ok threeP 0 (b1 67) (b1 65) (by decide) three_check _) ?_
  rw [show belowR 0 threeP.classes (b1 67) (b1 65) = true from three_below]
  refine runk_split 2 (by simp only [exec, stepQ, wantA, yieldA, kind, qv, qv1, qv2, stO, adrId, dataC, replC, eqNil, binNil, shiftInt, A.down, A1.up, downs, toR, ev, putS, rowO, ofConst, cellsA, cellsC, asC, asCs, ld, ldR, bin, binInt, binStr, binBool, sliceOf, bndOf, repl, fillC, zeroC, chunks, ptrIds, tabs, upd_app, mem_nil_app, entry_zero, entry_succ, entry_nil, top_app, maxStr, ByteArray.size, A.kill, O.kill, killS_app, killM_app, Nat.reduceAdd, Nat.reduceLeDiff, Nat.reduceEqDiff, Nat.reduceMul, Int.reduceToNat, reduceIte, wf_i64, Int.reduceLE, Int.reduceNeg, beq_self_eq_true, decide_true, decide_false, ybeq_some, ybeq_none, beqT, beqF, empty_toList, exs]; rfl) ?_
  refine runk_call rfl rfl rfl rfl rfl (by simp) cvs_nil (three_ok _) ?_
  refine runk_split 0 (by simp only [exec, stepQ, wantA, yieldA, kind, qv, qv1, qv2, stO, adrId, dataC, replC, eqNil, binNil, shiftInt, A.down, A1.up, downs, toR, ev, putS, rowO, ofConst, cellsA, cellsC, asC, asCs, ld, ldR, bin, binInt, binStr, binBool, sliceOf, bndOf, repl, fillC, zeroC, chunks, ptrIds, tabs, upd_app, mem_nil_app, entry_zero, entry_succ, entry_nil, top_app, maxStr, ByteArray.size, A.kill, O.kill, killS_app, killM_app, Nat.reduceAdd, Nat.reduceLeDiff, Nat.reduceEqDiff, Nat.reduceMul, Int.reduceToNat, reduceIte, wf_i64, Int.reduceLE, Int.reduceNeg, beq_self_eq_true, decide_true, decide_false, ybeq_some, ybeq_none, beqT, beqF, empty_toList, exs]; rfl) ?_
  refine runk_call rfl rfl rfl rfl rfl (by simp) (cvs_cons cv_refl cvs_nil) (three_check _) ?_
  refine runk_exec (by simp only [exec, stepQ, wantA, yieldA, kind, qv, qv1, qv2, stO, adrId, dataC, replC, eqNil, binNil, shiftInt, A.down, A1.up, downs, toR, ev, putS, rowO, ofConst, cellsA, cellsC, asC, asCs, ld, ldR, bin, binInt, binStr, binBool, sliceOf, bndOf, repl, fillC, zeroC, chunks, ptrIds, tabs, upd_app, mem_nil_app, entry_zero, entry_succ, entry_nil, top_app, maxStr, ByteArray.size, A.kill, O.kill, killS_app, killM_app, Nat.reduceAdd, Nat.reduceLeDiff, Nat.reduceEqDiff, Nat.reduceMul, Int.reduceToNat, reduceIte, wf_i64, Int.reduceLE, Int.reduceNeg, beq_self_eq_true, decide_true, decide_false, ybeq_some, ybeq_none, beqT, beqF, empty_toList, exs]; rfl) ?_
  refine W.ret ⟨.inr rfl, by rfl, ?_⟩
  simp only [Try.f8, resA, resOne, toT, fin, exec, stepQ, wantA, yieldA, kind, qv, qv1, qv2, stO, adrId, dataC, replC, eqNil, binNil, shiftInt, A.down, A1.up, downs, toR, ev, putS, rowO, ofConst, cellsA, cellsC, asC, asCs, ld, ldR, bin, binInt, binStr, binBool, sliceOf, bndOf, repl, fillC, zeroC, chunks, ptrIds, tabs, upd_app, mem_nil_app, entry_zero, entry_succ, entry_nil, top_app, maxStr, ByteArray.size, A.kill, O.kill, killS_app, killM_app, Nat.reduceAdd, Nat.reduceLeDiff, Nat.reduceEqDiff, Nat.reduceMul, Int.reduceToNat, reduceIte, wf_i64, Int.reduceLE, Int.reduceNeg, beq_self_eq_true, decide_true, decide_false, ybeq_some, ybeq_none, beqT, beqF, empty_toList, exs]
set_option maxHeartbeats 4000000 in
theorem sameD_ok (l : List ByteArray) (hl : l.length ≤ 1000000000) (m : Mem) : COk Try.prog 34 [.agg [.sl [], .sl [], .sl (l.map cStr)], .agg [.sl [], .sl [], .sl (l.map cStr)]] m (.c (.bool true)) := by
  refine (ok_pure tab_ok Try.func34 (by kernel_rfl) rfl rfl (by rfl) (by rfl) (by rfl) (fun R hkeep => ?_) m)
  repeat (first | refine W.seq ?_ | refine W.block ?_ | refine W.skip ?_ | refine W.exit ?_ | refine W.region tab_ok 0 (by decide) (exec_run (by simp only [exec, stepQ, wantA, yieldA, kind, qv, qv1, qv2, stO, adrId, dataC, replC, eqNil, binNil, shiftInt, A.down, A1.up, downs, toR, ev, putS, rowO, ofConst, cellsA, cellsC, asC, asCs, ld, ldR, bin, binInt, binStr, binBool, sliceOf, bndOf, repl, fillC, zeroC, chunks, ptrIds, tabs, upd_app, mem_nil_app, entry_zero, entry_succ, entry_nil, top_app, maxStr, ByteArray.size, A.kill, O.kill, killS_app, killM_app, Nat.reduceAdd, Nat.reduceLeDiff, Nat.reduceEqDiff, Nat.reduceMul, Int.reduceToNat, reduceIte, wf_i64, Int.reduceLE, Int.reduceNeg, beq_self_eq_true, decide_true, decide_false, ybeq_some, ybeq_none, beqT, beqF, empty_toList, exs]; rfl)) ?_)
  refine W.cond rfl ?_ ?_
  · intro h
    simp at h
  intro _
  repeat (first | refine W.seq ?_ | refine W.block ?_ | refine W.skip ?_ | refine W.exit ?_ | refine W.region tab_ok 0 (by decide) (exec_run (by simp only [exec, stepQ, wantA, yieldA, kind, qv, qv1, qv2, stO, adrId, dataC, replC, eqNil, binNil, shiftInt, A.down, A1.up, downs, toR, ev, putS, rowO, ofConst, cellsA, cellsC, asC, asCs, ld, ldR, bin, binInt, binStr, binBool, sliceOf, bndOf, repl, fillC, zeroC, chunks, ptrIds, tabs, upd_app, mem_nil_app, entry_zero, entry_succ, entry_nil, top_app, maxStr, ByteArray.size, A.kill, O.kill, killS_app, killM_app, Nat.reduceAdd, Nat.reduceLeDiff, Nat.reduceEqDiff, Nat.reduceMul, Int.reduceToNat, reduceIte, wf_i64, Int.reduceLE, Int.reduceNeg, beq_self_eq_true, decide_true, decide_false, ybeq_some, ybeq_none, beqT, beqF, empty_toList, exs]; rfl)) ?_)
  refine W.loop (ι := Unit) (fun _ => ⟨upd (upd (upd (upd (upd (fun _ => .top) 2 (.ptr 2 0)) 3 (.ptr 3 0)) 34 (.c (.sl []))) 35 (.c (.int .i64 0))) 36 (.c (.int .i64 0)), upd (upd Mem.nil 2 (some (.box 67 [.c (.sl []), .c (.sl []), .c (.sl (l.map cStr))]))) 3 (some (.box 67 [.c (.sl []), .c (.sl []), .c (.sl (l.map cStr))]))⟩)
    (fun _ => True) (fun _ => 0) () ?start trivial ?round
  case start =>
    refine le_mk ?sle ?mle ?swf ?mwf ?kept (by rfl)
    case kept => exact kept_not hkeep
    case swf => repeat (first | exact swf_top _ | refine swf_upd ?_ (by simp [A.ids, upd_app]))
    case mwf => repeat (first | exact mwf_nil _ | refine mwf_upd ?_ (by simp [A.ids, O.ids, upd_app]))
    case mle => repeat (first | exact mle_nil _ | exact mle_refl _ | refine mle_upd ?_ (by first | rfl | (simp only [upd_app, killM_app, Nat.reduceEqDiff, reduceIte]; done)))
    case sle => repeat (first | exact sle_top _ | exact sle_refl _ | refine sle_upd ?_ (by first | rfl | (simp only [upd_app, entry_zero, entry_succ, Nat.reduceEqDiff, reduceIte]; done)))
  case round =>
    rintro _ -
    repeat (first | refine W.seq ?_ | refine W.block ?_ | refine W.skip ?_ | refine W.exit ?_ | refine W.region tab_ok 0 (by decide) (exec_run (by simp only [exec, stepQ, wantA, yieldA, kind, qv, qv1, qv2, stO, adrId, dataC, replC, eqNil, binNil, shiftInt, A.down, A1.up, downs, toR, ev, putS, rowO, ofConst, cellsA, cellsC, asC, asCs, ld, ldR, bin, binInt, binStr, binBool, sliceOf, bndOf, repl, fillC, zeroC, chunks, ptrIds, tabs, upd_app, mem_nil_app, entry_zero, entry_succ, entry_nil, top_app, maxStr, ByteArray.size, A.kill, O.kill, killS_app, killM_app, Nat.reduceAdd, Nat.reduceLeDiff, Nat.reduceEqDiff, Nat.reduceMul, Int.reduceToNat, reduceIte, wf_i64, Int.reduceLE, Int.reduceNeg, beq_self_eq_true, decide_true, decide_false, ybeq_some, ybeq_none, beqT, beqF, empty_toList, exs]; rfl)) ?_)
    refine W.cond rfl ?_ ?_
    · intro h
      simp at h
    intro _
    repeat (first | refine W.seq ?_ | refine W.block ?_ | refine W.skip ?_ | refine W.exit ?_ | refine W.region tab_ok 0 (by decide) (exec_run (by simp only [exec, stepQ, wantA, yieldA, kind, qv, qv1, qv2, stO, adrId, dataC, replC, eqNil, binNil, shiftInt, A.down, A1.up, downs, toR, ev, putS, rowO, ofConst, cellsA, cellsC, asC, asCs, ld, ldR, bin, binInt, binStr, binBool, sliceOf, bndOf, repl, fillC, zeroC, chunks, ptrIds, tabs, upd_app, mem_nil_app, entry_zero, entry_succ, entry_nil, top_app, maxStr, ByteArray.size, A.kill, O.kill, killS_app, killM_app, Nat.reduceAdd, Nat.reduceLeDiff, Nat.reduceEqDiff, Nat.reduceMul, Int.reduceToNat, reduceIte, wf_i64, Int.reduceLE, Int.reduceNeg, beq_self_eq_true, decide_true, decide_false, ybeq_some, ybeq_none, beqT, beqF, empty_toList, exs]; rfl)) ?_)
    refine W.loop (ι := Unit) (fun _ => ⟨upd (upd (upd (upd (upd (fun _ => .top) 2 (.ptr 2 0)) 3 (.ptr 3 0)) 52 (.c (.sl []))) 53 (.c (.int .i64 0))) 54 (.c (.int .i64 0)), upd (upd Mem.nil 2 (some (.box 67 [.c (.sl []), .c (.sl []), .c (.sl (l.map cStr))]))) 3 (some (.box 67 [.c (.sl []), .c (.sl []), .c (.sl (l.map cStr))]))⟩)
      (fun _ => True) (fun _ => 0) () ?start trivial ?round
    case start =>
      refine le_mk ?sle ?mle ?swf ?mwf ?kept (by rfl)
      case kept => exact kept_not hkeep
      case swf => repeat (first | exact swf_top _ | refine swf_upd ?_ (by simp [A.ids, upd_app]))
      case mwf => repeat (first | exact mwf_nil _ | refine mwf_upd ?_ (by simp [A.ids, O.ids, upd_app]))
      case mle => repeat (first | exact mle_nil _ | exact mle_refl _ | refine mle_upd ?_ (by first | rfl | (simp only [upd_app, killM_app, Nat.reduceEqDiff, reduceIte]; done)))
      case sle => repeat (first | exact sle_top _ | exact sle_refl _ | refine sle_upd ?_ (by first | rfl | (simp only [upd_app, entry_zero, entry_succ, Nat.reduceEqDiff, reduceIte]; done)))
    case round =>
      rintro _ -
      repeat (first | refine W.seq ?_ | refine W.block ?_ | refine W.skip ?_ | refine W.exit ?_ | refine W.region tab_ok 0 (by decide) (exec_run (by simp only [exec, stepQ, wantA, yieldA, kind, qv, qv1, qv2, stO, adrId, dataC, replC, eqNil, binNil, shiftInt, A.down, A1.up, downs, toR, ev, putS, rowO, ofConst, cellsA, cellsC, asC, asCs, ld, ldR, bin, binInt, binStr, binBool, sliceOf, bndOf, repl, fillC, zeroC, chunks, ptrIds, tabs, upd_app, mem_nil_app, entry_zero, entry_succ, entry_nil, top_app, maxStr, ByteArray.size, A.kill, O.kill, killS_app, killM_app, Nat.reduceAdd, Nat.reduceLeDiff, Nat.reduceEqDiff, Nat.reduceMul, Int.reduceToNat, reduceIte, wf_i64, Int.reduceLE, Int.reduceNeg, beq_self_eq_true, decide_true, decide_false, ybeq_some, ybeq_none, beqT, beqF, empty_toList, exs]; rfl)) ?_)
      refine W.cond rfl ?_ ?_
      · intro h
        simp at h
      intro _
      repeat (first | refine W.seq ?_ | refine W.block ?_ | refine W.skip ?_ | refine W.exit ?_ | refine W.region tab_ok 0 (by decide) (exec_run (by simp only [exec, stepQ, wantA, yieldA, kind, qv, qv1, qv2, stO, adrId, dataC, replC, eqNil, binNil, shiftInt, A.down, A1.up, downs, toR, ev, putS, rowO, ofConst, cellsA, cellsC, asC, asCs, ld, ldR, bin, binInt, binStr, binBool, sliceOf, bndOf, repl, fillC, zeroC, chunks, ptrIds, tabs, upd_app, mem_nil_app, entry_zero, entry_succ, entry_nil, top_app, maxStr, ByteArray.size, A.kill, O.kill, killS_app, killM_app, Nat.reduceAdd, Nat.reduceLeDiff, Nat.reduceEqDiff, Nat.reduceMul, Int.reduceToNat, reduceIte, wf_i64, Int.reduceLE, Int.reduceNeg, beq_self_eq_true, decide_true, decide_false, ybeq_some, ybeq_none, beqT, beqF, empty_toList, exs]; rfl)) ?_)
      refine W.loop (ι := Nat) (fun k => ⟨upd (upd (upd (upd (upd (fun _ => .top) 2 (.ptr 2 0)) 3 (.ptr 3 0)) 70 (.c (.sl (l.map cStr)))) 71 (.c (.int .i64 l.length))) 72 (.c (.int .i64 k)), upd (upd Mem.nil 2 (some (.box 67 [.c (.sl []), .c (.sl []), .c (.sl (l.map cStr))]))) 3 (some (.box 67 [.c (.sl []), .c (.sl []), .c (.sl (l.map cStr))]))⟩)
        (fun k => k ≤ l.length) (fun k => l.length - k) 0 ?start (Nat.zero_le _) ?round
      case start =>
        refine le_mk ?sle ?mle ?swf ?mwf ?kept (by rfl)
        case kept => exact kept_not hkeep
        case swf => repeat (first | exact swf_top _ | refine swf_upd ?_ (by simp [A.ids, upd_app]))
        case mwf => repeat (first | exact mwf_nil _ | refine mwf_upd ?_ (by simp [A.ids, O.ids, upd_app]))
        case mle => repeat (first | exact mle_nil _ | exact mle_refl _ | refine mle_upd ?_ (by first | rfl | (simp only [upd_app, killM_app, Nat.reduceEqDiff, reduceIte]; done)))
        case sle => repeat (first | exact sle_top _ | exact sle_refl _ | refine sle_upd ?_ (by first | rfl | (simp only [upd_app, entry_zero, entry_succ, Nat.reduceEqDiff, reduceIte]; done)))
      case round =>
        intro k hk
        repeat (first | refine W.seq ?_ | refine W.block ?_ | refine W.skip ?_ | refine W.exit ?_ | refine W.region tab_ok 0 (by decide) (exec_run (by simp only [exec, stepQ, wantA, yieldA, kind, qv, qv1, qv2, stO, adrId, dataC, replC, eqNil, binNil, shiftInt, A.down, A1.up, downs, toR, ev, putS, rowO, ofConst, cellsA, cellsC, asC, asCs, ld, ldR, bin, binInt, binStr, binBool, sliceOf, bndOf, repl, fillC, zeroC, chunks, ptrIds, tabs, upd_app, mem_nil_app, entry_zero, entry_succ, entry_nil, top_app, maxStr, ByteArray.size, A.kill, O.kill, killS_app, killM_app, Nat.reduceAdd, Nat.reduceLeDiff, Nat.reduceEqDiff, Nat.reduceMul, Int.reduceToNat, reduceIte, wf_i64, Int.reduceLE, Int.reduceNeg, beq_self_eq_true, decide_true, decide_false, ybeq_some, ybeq_none, beqT, beqF, empty_toList, exs]; rfl)) ?_)
        refine W.cond rfl ?_ ?_
        · intro hlt
          simp only [decide_eq_true_eq, Int.ofNat_lt] at hlt
          obtain ⟨x, hx⟩ : ∃ x, l[k]? = some x := ⟨_, List.getElem?_eq_getElem hlt⟩
          repeat (first | refine W.seq ?_ | refine W.block ?_ | refine W.skip ?_ | refine W.exit ?_ | refine W.region tab_ok 0 (by decide) (exec_run (by simp only [exec, stepQ, wantA, yieldA, kind, qv, qv1, qv2, stO, adrId, dataC, replC, eqNil, binNil, shiftInt, A.down, A1.up, downs, toR, ev, putS, rowO, ofConst, cellsA, cellsC, asC, asCs, ld, ldR, bin, binInt, binStr, binBool, sliceOf, bndOf, repl, fillC, zeroC, chunks, ptrIds, tabs, upd_app, mem_nil_app, entry_zero, entry_succ, entry_nil, top_app, maxStr, ByteArray.size, A.kill, O.kill, killS_app, killM_app, Nat.reduceAdd, Nat.reduceLeDiff, Nat.reduceEqDiff, Nat.reduceMul, Int.reduceToNat, reduceIte, wf_i64, Int.reduceLE, Int.reduceNeg, beq_self_eq_true, decide_true, decide_false, ybeq_some, ybeq_none, beqT, beqF, empty_toList, exs]; rfl)) ?_)
          refine W.regionDK tab_ok 0 follows_mixed (by kernel_rfl) (by decide) ?_
          refine runk_exec (by simp only [exec, stepQ, wantA, yieldA, kind, qv, qv1, qv2, stO, adrId, dataC, replC, eqNil, binNil, shiftInt, A.down, A1.up, downs, toR, ev, putS, rowO, ofConst, cellsA, cellsC, asC, asCs, ld, ldR, bin, binInt, binStr, binBool, sliceOf, bndOf, repl, fillC, zeroC, chunks, ptrIds, tabs, upd_app, mem_nil_app, entry_zero, entry_succ, entry_nil, top_app, maxStr, ByteArray.size, A.kill, O.kill, killS_app, killM_app, Nat.reduceAdd, Nat.reduceLeDiff, Nat.reduceEqDiff, Nat.reduceMul, Int.reduceToNat, reduceIte, wf_i64, Int.reduceLE, Int.reduceNeg, beq_self_eq_true, decide_true, decide_false, ybeq_some, ybeq_none, beqT, beqF, empty_toList, exs, at_map hx, cStr]; rfl) ?_
          refine W.cond rfl ?_ ?_
          · intro h
            simp at h
          · intro h
            repeat (first | refine W.seq ?_ | refine W.block ?_ | refine W.skip ?_ | refine W.exit ?_ | refine W.region tab_ok 0 (by decide) (exec_run (by simp only [exec, stepQ, wantA, yieldA, kind, qv, qv1, qv2, stO, adrId, dataC, replC, eqNil, binNil, shiftInt, A.down, A1.up, downs, toR, ev, putS, rowO, ofConst, cellsA, cellsC, asC, asCs, ld, ldR, bin, binInt, binStr, binBool, sliceOf, bndOf, repl, fillC, zeroC, chunks, ptrIds, tabs, upd_app, mem_nil_app, entry_zero, entry_succ, entry_nil, top_app, maxStr, ByteArray.size, A.kill, O.kill, killS_app, killM_app, Nat.reduceAdd, Nat.reduceLeDiff, Nat.reduceEqDiff, Nat.reduceMul, Int.reduceToNat, reduceIte, wf_i64, Int.reduceLE, Int.reduceNeg, beq_self_eq_true, decide_true, decide_false, ybeq_some, ybeq_none, beqT, beqF, empty_toList, exs]; rfl)) ?_)
            refine ⟨k + 1, hlt, by omega, ?_⟩
            refine le_mk ?sle ?mle ?swf ?mwf ?kept (by rfl)
            case kept => exact kept_not hkeep
            case swf => repeat (first | exact swf_top _ | refine swf_upd ?_ (by simp [A.ids, upd_app]))
            case mwf => repeat (first | exact mwf_nil _ | refine mwf_upd ?_ (by simp [A.ids, O.ids, upd_app]))
            case mle => repeat (first | exact mle_nil _ | exact mle_refl _ | refine mle_upd ?_ (by first | rfl | (simp only [upd_app, killM_app, Nat.reduceEqDiff, reduceIte, wrap_succ (show k + 1 < 9223372036854775808 by omega)]; done)))
            case sle => repeat (first | exact sle_top _ | exact sle_refl _ | refine sle_upd ?_ (by first | rfl | (simp only [upd_app, entry_zero, entry_succ, Nat.reduceEqDiff, reduceIte, wrap_succ (show k + 1 < 9223372036854775808 by omega)]; done)))
        · intro hge
          repeat (first | refine W.seq ?_ | refine W.block ?_ | refine W.skip ?_ | refine W.exit ?_ | refine W.region tab_ok 0 (by decide) (exec_run (by simp only [exec, stepQ, wantA, yieldA, kind, qv, qv1, qv2, stO, adrId, dataC, replC, eqNil, binNil, shiftInt, A.down, A1.up, downs, toR, ev, putS, rowO, ofConst, cellsA, cellsC, asC, asCs, ld, ldR, bin, binInt, binStr, binBool, sliceOf, bndOf, repl, fillC, zeroC, chunks, ptrIds, tabs, upd_app, mem_nil_app, entry_zero, entry_succ, entry_nil, top_app, maxStr, ByteArray.size, A.kill, O.kill, killS_app, killM_app, Nat.reduceAdd, Nat.reduceLeDiff, Nat.reduceEqDiff, Nat.reduceMul, Int.reduceToNat, reduceIte, wf_i64, Int.reduceLE, Int.reduceNeg, beq_self_eq_true, decide_true, decide_false, ybeq_some, ybeq_none, beqT, beqF, empty_toList, exs]; rfl)) ?_)
          refine W.ret ⟨.inr rfl, by rfl, ?_⟩
          simp only [Try.f34, resA, resOne, toT, fin, exec, stepQ, wantA, yieldA, kind, qv, qv1, qv2, stO, adrId, dataC, replC, eqNil, binNil, shiftInt, A.down, A1.up, downs, toR, ev, putS, rowO, ofConst, cellsA, cellsC, asC, asCs, ld, ldR, bin, binInt, binStr, binBool, sliceOf, bndOf, repl, fillC, zeroC, chunks, ptrIds, tabs, upd_app, mem_nil_app, entry_zero, entry_succ, entry_nil, top_app, maxStr, ByteArray.size, A.kill, O.kill, killS_app, killM_app, Nat.reduceAdd, Nat.reduceLeDiff, Nat.reduceEqDiff, Nat.reduceMul, Int.reduceToNat, reduceIte, wf_i64, Int.reduceLE, Int.reduceNeg, beq_self_eq_true, decide_true, decide_false, ybeq_some, ybeq_none, beqT, beqF, empty_toList, exs]
theorem same_ok (l : List ByteArray) (hl : l.length ≤ 1000000000) (m : Mem) : COk Try.prog 12 [.c (.sl (l.map cStr)), .c (.sl (l.map cStr))] m (.c (.bool true)) := by
  refine (ok_pure tab_ok Try.func12 (by kernel_rfl) rfl rfl (by rfl) (by rfl) (by rfl) (fun R hkeep => ?_) m)
  repeat (first | refine W.seq ?_ | refine W.block ?_ | refine W.skip ?_ | refine W.exit ?_ | refine W.region tab_ok 0 (by decide) (exec_run (by simp only [exec, stepQ, wantA, yieldA, kind, qv, qv1, qv2, stO, adrId, dataC, replC, eqNil, binNil, shiftInt, A.down, A1.up, downs, toR, ev, putS, rowO, ofConst, cellsA, cellsC, asC, asCs, ld, ldR, bin, binInt, binStr, binBool, sliceOf, bndOf, repl, fillC, zeroC, chunks, ptrIds, tabs, upd_app, mem_nil_app, entry_zero, entry_succ, entry_nil, top_app, maxStr, ByteArray.size, A.kill, O.kill, killS_app, killM_app, Nat.reduceAdd, Nat.reduceLeDiff, Nat.reduceEqDiff, Nat.reduceMul, Int.reduceToNat, reduceIte, wf_i64, Int.reduceLE, Int.reduceNeg, beq_self_eq_true, decide_true, decide_false, ybeq_some, ybeq_none, beqT, beqF, empty_toList, exs]; rfl)) ?_)
  refine W.regionK tab_ok 0 (by decide) ?_
  refine runk_split 4 (by simp only [exec, stepQ, wantA, yieldA, kind, qv, qv1, qv2, stO, adrId, dataC, replC, eqNil, binNil, shiftInt, A.down, A1.up, downs, toR, ev, putS, rowO, ofConst, cellsA, cellsC, asC, asCs, ld, ldR, bin, binInt, binStr, binBool, sliceOf, bndOf, repl, fillC, zeroC, chunks, ptrIds, tabs, upd_app, mem_nil_app, entry_zero, entry_succ, entry_nil, top_app, maxStr, ByteArray.size, A.kill, O.kill, killS_app, killM_app, Nat.reduceAdd, Nat.reduceLeDiff, Nat.reduceEqDiff, Nat.reduceMul, Int.reduceToNat, reduceIte, wf_i64, Int.reduceLE, Int.reduceNeg, beq_self_eq_true, decide_true, decide_false, ybeq_some, ybeq_none, beqT, beqF, empty_toList, exs]; rfl) ?_
  refine runk_call rfl rfl rfl rfl rfl (by simp) (cvs_cons cv_refl (cvs_cons cv_refl cvs_nil)) (sameD_ok l hl _) ?_
  refine runk_exec (by simp only [exec, stepQ, wantA, yieldA, kind, qv, qv1, qv2, stO, adrId, dataC, replC, eqNil, binNil, shiftInt, A.down, A1.up, downs, toR, ev, putS, rowO, ofConst, cellsA, cellsC, asC, asCs, ld, ldR, bin, binInt, binStr, binBool, sliceOf, bndOf, repl, fillC, zeroC, chunks, ptrIds, tabs, upd_app, mem_nil_app, entry_zero, entry_succ, entry_nil, top_app, maxStr, ByteArray.size, A.kill, O.kill, killS_app, killM_app, Nat.reduceAdd, Nat.reduceLeDiff, Nat.reduceEqDiff, Nat.reduceMul, Int.reduceToNat, reduceIte, wf_i64, Int.reduceLE, Int.reduceNeg, beq_self_eq_true, decide_true, decide_false, ybeq_some, ybeq_none, beqT, beqF, empty_toList, exs]; rfl) ?_
  refine W.ret ⟨.inr rfl, by rfl, ?_⟩
  simp only [Try.f12, resA, resOne, toT, fin, exec, stepQ, wantA, yieldA, kind, qv, qv1, qv2, stO, adrId, dataC, replC, eqNil, binNil, shiftInt, A.down, A1.up, downs, toR, ev, putS, rowO, ofConst, cellsA, cellsC, asC, asCs, ld, ldR, bin, binInt, binStr, binBool, sliceOf, bndOf, repl, fillC, zeroC, chunks, ptrIds, tabs, upd_app, mem_nil_app, entry_zero, entry_succ, entry_nil, top_app, maxStr, ByteArray.size, A.kill, O.kill, killS_app, killM_app, Nat.reduceAdd, Nat.reduceLeDiff, Nat.reduceEqDiff, Nat.reduceMul, Int.reduceToNat, reduceIte, wf_i64, Int.reduceLE, Int.reduceNeg, beq_self_eq_true, decide_true, decide_false, ybeq_some, ybeq_none, beqT, beqF, empty_toList, exs]
end V
end Go.Proofs.Ytjciafpihdbedaa
end
section
set_option linter.unusedVariables false
set_option linter.unusedSimpArgs false
namespace Go.Proofs.Ytjciafpihdbedaa
namespace V
open Go.RowKit
set_option linter.unusedSimpArgs false
def errP (p : Program) : Int := treeErr (checkB p)
theorem chk_ok (p : Program) (hS : SmallC p.classes) (hlen : p.classes.length ≤ 1048576) (m : Mem) : COk Try.prog 9 [.agg (cProg p)] m (.c (.int .i64 (chkErr (errP p) p.classes))) :=
  check_ok p (errP p) hS (by omega) (fun m => tree_ok p m) m
theorem refChk_ok (p : Program) (hS : SmallC p.classes) (hlen : p.classes.length ≤ 1048576) (m : Mem) : COk Try.prog 10 [.agg (cProg p)] m (.c (.int .i64 (chkErr (errP p) p.classes))) := by
  rw [err_eq]
  exact refCheck_ok p (errP p) (treeErr_wf _) hS (by omega) (fun m => refTree_ok p m) m
set_option maxHeartbeats 1000000 in
theorem lawCheck_ok (p : Program) (hS : SmallC p.classes) (hlen : p.classes.length ≤ 1048576) (m : Mem) : COk Try.prog 3 [.agg (cProg p)] m (.c (.bool true)) := by
  have h1 := chk_ok p hS hlen
  have h2 := refChk_ok p hS hlen
  generalize chkErr (errP p) p.classes = E at h1 h2
  refine (ok_pure tab_ok Try.func3 (by kernel_rfl) rfl rfl (by rfl) (by rfl) (by rfl) (fun R hkeep => ?_) m)
  repeat (first | refine W.seq ?_ | refine W.block ?_ | refine W.skip ?_ | refine W.exit ?_ | refine W.region tab_ok 0 (by decide) (exec_run (by simp only [exec, stepQ, wantA, yieldA, kind, qv, qv1, qv2, stO, adrId, dataC, replC, eqNil, binNil, shiftInt, A.down, A1.up, downs, toR, ev, putS, rowO, ofConst, cellsA, cellsC, asC, asCs, ld, ldR, bin, binInt, binStr, binBool, sliceOf, bndOf, repl, fillC, zeroC, chunks, ptrIds, tabs, upd_app, mem_nil_app, entry_zero, entry_succ, entry_nil, top_app, maxStr, ByteArray.size, A.kill, O.kill, killS_app, killM_app, Nat.reduceAdd, Nat.reduceLeDiff, Nat.reduceEqDiff, Nat.reduceMul, Int.reduceToNat, reduceIte, wf_i64, Int.reduceLE, Int.reduceNeg, beq_self_eq_true, decide_true, decide_false, ybeq_some, ybeq_none, beqT, beqF, empty_toList, exs, cProg]; rfl)) ?_)
  refine W.regionDK tab_ok 0 follows_mixed (by kernel_rfl) (by decide) ?_
  refine runk_split 0 (by simp only [exec, stepQ, wantA, yieldA, kind, qv, qv1, qv2, stO, adrId, dataC, replC, eqNil, binNil, shiftInt, A.down, A1.up, downs, toR, ev, putS, rowO, ofConst, cellsA, cellsC, asC, asCs, ld, ldR, bin, binInt, binStr, binBool, sliceOf, bndOf, repl, fillC, zeroC, chunks, ptrIds, tabs, upd_app, mem_nil_app, entry_zero, entry_succ, entry_nil, top_app, maxStr, ByteArray.size, A.kill, O.kill, killS_app, killM_app, Nat.reduceAdd, Nat.reduceLeDiff, Nat.reduceEqDiff, Nat.reduceMul, Int.reduceToNat, reduceIte, wf_i64, Int.reduceLE, Int.reduceNeg, beq_self_eq_true, decide_true, decide_false, ybeq_some, ybeq_none, beqT, beqF, empty_toList, exs]; rfl) ?_
  refine runk_call rfl rfl rfl rfl rfl (by simp) cvs_nil (live_ok _) ?_
  refine runk_split 2 (by simp only [exec, stepQ, wantA, yieldA, kind, qv, qv1, qv2, stO, adrId, dataC, replC, eqNil, binNil, shiftInt, A.down, A1.up, downs, toR, ev, putS, rowO, ofConst, cellsA, cellsC, asC, asCs, ld, ldR, bin, binInt, binStr, binBool, sliceOf, bndOf, repl, fillC, zeroC, chunks, ptrIds, tabs, upd_app, mem_nil_app, entry_zero, entry_succ, entry_nil, top_app, maxStr, ByteArray.size, A.kill, O.kill, killS_app, killM_app, Nat.reduceAdd, Nat.reduceLeDiff, Nat.reduceEqDiff, Nat.reduceMul, Int.reduceToNat, reduceIte, wf_i64, Int.reduceLE, Int.reduceNeg, beq_self_eq_true, decide_true, decide_false, ybeq_some, ybeq_none, beqT, beqF, empty_toList, exs, cProg]; rfl) ?_
  refine runk_call rfl rfl rfl rfl rfl (by simp) (cvs_cons cv_refl cvs_nil) (h1 _) ?_
  refine runk_split 1 (by simp only [exec, stepQ, wantA, yieldA, kind, qv, qv1, qv2, stO, adrId, dataC, replC, eqNil, binNil, shiftInt, A.down, A1.up, downs, toR, ev, putS, rowO, ofConst, cellsA, cellsC, asC, asCs, ld, ldR, bin, binInt, binStr, binBool, sliceOf, bndOf, repl, fillC, zeroC, chunks, ptrIds, tabs, upd_app, mem_nil_app, entry_zero, entry_succ, entry_nil, top_app, maxStr, ByteArray.size, A.kill, O.kill, killS_app, killM_app, Nat.reduceAdd, Nat.reduceLeDiff, Nat.reduceEqDiff, Nat.reduceMul, Int.reduceToNat, reduceIte, wf_i64, Int.reduceLE, Int.reduceNeg, beq_self_eq_true, decide_true, decide_false, ybeq_some, ybeq_none, beqT, beqF, empty_toList, exs, cProg]; rfl) ?_
  refine runk_call rfl rfl rfl rfl rfl (by simp) (cvs_cons cv_refl cvs_nil) (h2 _) ?_
  refine runk_exec (by simp only [exec, stepQ, wantA, yieldA, kind, qv, qv1, qv2, stO, adrId, dataC, replC, eqNil, binNil, shiftInt, A.down, A1.up, downs, toR, ev, putS, rowO, ofConst, cellsA, cellsC, asC, asCs, ld, ldR, bin, binInt, binStr, binBool, sliceOf, bndOf, repl, fillC, zeroC, chunks, ptrIds, tabs, upd_app, mem_nil_app, entry_zero, entry_succ, entry_nil, top_app, maxStr, ByteArray.size, A.kill, O.kill, killS_app, killM_app, Nat.reduceAdd, Nat.reduceLeDiff, Nat.reduceEqDiff, Nat.reduceMul, Int.reduceToNat, reduceIte, wf_i64, Int.reduceLE, Int.reduceNeg, beq_self_eq_true, decide_true, decide_false, ybeq_some, ybeq_none, beqT, beqF, empty_toList, exs]; rfl) ?_
  refine W.ret ⟨.inr rfl, by rfl, ?_⟩
  simp only [Try.f3, resA, resOne, toT, fin, exec, stepQ, wantA, yieldA, kind, qv, qv1, qv2, stO, adrId, dataC, replC, eqNil, binNil, shiftInt, A.down, A1.up, downs, toR, ev, putS, rowO, ofConst, cellsA, cellsC, asC, asCs, ld, ldR, bin, binInt, binStr, binBool, sliceOf, bndOf, repl, fillC, zeroC, chunks, ptrIds, tabs, upd_app, mem_nil_app, entry_zero, entry_succ, entry_nil, top_app, maxStr, ByteArray.size, A.kill, O.kill, killS_app, killM_app, Nat.reduceAdd, Nat.reduceLeDiff, Nat.reduceEqDiff, Nat.reduceMul, Int.reduceToNat, reduceIte, wf_i64, Int.reduceLE, Int.reduceNeg, beq_self_eq_true, decide_true, decide_false, ybeq_some, ybeq_none, beqT, beqF, empty_toList, exs]
set_option maxHeartbeats 1000000 in
theorem lawChain_ok (p : Program) (a b : ByteArray) (hS : SmallC p.classes) (hlen : p.classes.length ≤ 1048576) (m : Mem) : COk Try.prog 4 [.agg (cProg p), .c (.str a), .c (.str b)] m (.c (.bool true)) := by
  have h1 := chk_ok p hS hlen
  have h2 := refChk_ok p hS hlen
  generalize chkErr (errP p) p.classes = E at h1 h2
  have h3 := fun m => chainP_ok p E a (by omega) h1 m
  have h4 := fun m => refChain_ok p E a (by omega) h2 m
  have h5 := fun m => below_ok p E a b (by omega) h1 m
  have h6 := fun m => refBelow_ok p E a b (by omega) h2 m
  have e : belowR E p.classes a b = (refChainF E p.classes a).any (fun x => x.toList == b.toList) := by
    unfold belowR
    rw [chain_eq]
    congr 1; funext x; exact BEq.comm
  rw [e] at h5
  rw [chain_eq] at h3
  have hl : (refChainF E p.classes a).length ≤ 1000000000 := by rw [← chain_eq]; have := chainR_len E p.classes a; omega
  generalize refChainF E p.classes a = L at h3 h4 h5 h6 hl
  generalize (L.any fun x => x.toList == b.toList) = B at h5 h6
  refine (ok_pure tab_ok Try.func4 (by kernel_rfl) rfl rfl (by rfl) (by rfl) (by rfl) (fun R hkeep => ?_) m)
  repeat (first | refine W.seq ?_ | refine W.block ?_ | refine W.skip ?_ | refine W.exit ?_ | refine W.region tab_ok 0 (by decide) (exec_run (by simp only [exec, stepQ, wantA, yieldA, kind, qv, qv1, qv2, stO, adrId, dataC, replC, eqNil, binNil, shiftInt, A.down, A1.up, downs, toR, ev, putS, rowO, ofConst, cellsA, cellsC, asC, asCs, ld, ldR, bin, binInt, binStr, binBool, sliceOf, bndOf, repl, fillC, zeroC, chunks, ptrIds, tabs, upd_app, mem_nil_app, entry_zero, entry_succ, entry_nil, top_app, maxStr, ByteArray.size, A.kill, O.kill, killS_app, killM_app, Nat.reduceAdd, Nat.reduceLeDiff, Nat.reduceEqDiff, Nat.reduceMul, Int.reduceToNat, reduceIte, wf_i64, Int.reduceLE, Int.reduceNeg, beq_self_eq_true, decide_true, decide_false, ybeq_some, ybeq_none, beqT, beqF, empty_toList, exs, cProg]; rfl)) ?_)
  refine W.regionK tab_ok 0 (by decide) ?_
  refine runk_split 2 (by simp only [exec, stepQ, wantA, yieldA, kind, qv, qv1, qv2, stO, adrId, dataC, replC, eqNil, binNil, shiftInt, A.down, A1.up, downs, toR, ev, putS, rowO, ofConst, cellsA, cellsC, asC, asCs, ld, ldR, bin, binInt, binStr, binBool, sliceOf, bndOf, repl, fillC, zeroC, chunks, ptrIds, tabs, upd_app, mem_nil_app, entry_zero, entry_succ, entry_nil, top_app, maxStr, ByteArray.size, A.kill, O.kill, killS_app, killM_app, Nat.reduceAdd, Nat.reduceLeDiff, Nat.reduceEqDiff, Nat.reduceMul, Int.reduceToNat, reduceIte, wf_i64, Int.reduceLE, Int.reduceNeg, beq_self_eq_true, decide_true, decide_false, ybeq_some, ybeq_none, beqT, beqF, empty_toList, exs, cProg]; rfl) ?_
  refine runk_call rfl rfl rfl rfl rfl (by simp) (cvs_cons cv_refl (cvs_cons cv_refl cvs_nil)) (h3 _) ?_
  refine runk_exec (by simp only [exec, stepQ, wantA, yieldA, kind, qv, qv1, qv2, stO, adrId, dataC, replC, eqNil, binNil, shiftInt, A.down, A1.up, downs, toR, ev, putS, rowO, ofConst, cellsA, cellsC, asC, asCs, ld, ldR, bin, binInt, binStr, binBool, sliceOf, bndOf, repl, fillC, zeroC, chunks, ptrIds, tabs, upd_app, mem_nil_app, entry_zero, entry_succ, entry_nil, top_app, maxStr, ByteArray.size, A.kill, O.kill, killS_app, killM_app, Nat.reduceAdd, Nat.reduceLeDiff, Nat.reduceEqDiff, Nat.reduceMul, Int.reduceToNat, reduceIte, wf_i64, Int.reduceLE, Int.reduceNeg, beq_self_eq_true, decide_true, decide_false, ybeq_some, ybeq_none, beqT, beqF, empty_toList, exs]; rfl) ?_
  repeat (first | refine W.seq ?_ | refine W.block ?_ | refine W.skip ?_ | refine W.exit ?_ | refine W.region tab_ok 0 (by decide) (exec_run (by simp only [exec, stepQ, wantA, yieldA, kind, qv, qv1, qv2, stO, adrId, dataC, replC, eqNil, binNil, shiftInt, A.down, A1.up, downs, toR, ev, putS, rowO, ofConst, cellsA, cellsC, asC, asCs, ld, ldR, bin, binInt, binStr, binBool, sliceOf, bndOf, repl, fillC, zeroC, chunks, ptrIds, tabs, upd_app, mem_nil_app, entry_zero, entry_succ, entry_nil, top_app, maxStr, ByteArray.size, A.kill, O.kill, killS_app, killM_app, Nat.reduceAdd, Nat.reduceLeDiff, Nat.reduceEqDiff, Nat.reduceMul, Int.reduceToNat, reduceIte, wf_i64, Int.reduceLE, Int.reduceNeg, beq_self_eq_true, decide_true, decide_false, ybeq_some, ybeq_none, beqT, beqF, empty_toList, exs]; rfl)) ?_)
  refine W.regionDK tab_ok 0 follows_mixed (by kernel_rfl) (by decide) ?_
  refine runk_split 0 (by simp only [exec, stepQ, wantA, yieldA, kind, qv, qv1, qv2, stO, adrId, dataC, replC, eqNil, binNil, shiftInt, A.down, A1.up, downs, toR, ev, putS, rowO, ofConst, cellsA, cellsC, asC, asCs, ld, ldR, bin, binInt, binStr, binBool, sliceOf, bndOf, repl, fillC, zeroC, chunks, ptrIds, tabs, upd_app, mem_nil_app, entry_zero, entry_succ, entry_nil, top_app, maxStr, ByteArray.size, A.kill, O.kill, killS_app, killM_app, Nat.reduceAdd, Nat.reduceLeDiff, Nat.reduceEqDiff, Nat.reduceMul, Int.reduceToNat, reduceIte, wf_i64, Int.reduceLE, Int.reduceNeg, beq_self_eq_true, decide_true, decide_false, ybeq_some, ybeq_none, beqT, beqF, empty_toList, exs]; rfl) ?_
  refine runk_call rfl rfl rfl rfl rfl (by simp) cvs_nil (live_ok _) ?_
  refine runk_split 4 (by simp only [exec, stepQ, wantA, yieldA, kind, qv, qv1, qv2, stO, adrId, dataC, replC, eqNil, binNil, shiftInt, A.down, A1.up, downs, toR, ev, putS, rowO, ofConst, cellsA, cellsC, asC, asCs, ld, ldR, bin, binInt, binStr, binBool, sliceOf, bndOf, repl, fillC, zeroC, chunks, ptrIds, tabs, upd_app, mem_nil_app, entry_zero, entry_succ, entry_nil, top_app, maxStr, ByteArray.size, A.kill, O.kill, killS_app, killM_app, Nat.reduceAdd, Nat.reduceLeDiff, Nat.reduceEqDiff, Nat.reduceMul, Int.reduceToNat, reduceIte, wf_i64, Int.reduceLE, Int.reduceNeg, beq_self_eq_true, decide_true, decide_false, ybeq_some, ybeq_none, beqT, beqF, empty_toList, exs, cProg]; rfl) ?_
  refine runk_call rfl rfl rfl rfl rfl (by simp) (cvs_cons cv_refl (cvs_cons cv_refl cvs_nil)) (h4 _) ?_
  refine runk_split 0 (by simp only [exec, stepQ, wantA, yieldA, kind, qv, qv1, qv2, stO, adrId, dataC, replC, eqNil, binNil, shiftInt, A.down, A1.up, downs, toR, ev, putS, rowO, ofConst, cellsA, cellsC, asC, asCs, ld, ldR, bin, binInt, binStr, binBool, sliceOf, bndOf, repl, fillC, zeroC, chunks, ptrIds, tabs, upd_app, mem_nil_app, entry_zero, entry_succ, entry_nil, top_app, maxStr, ByteArray.size, A.kill, O.kill, killS_app, killM_app, Nat.reduceAdd, Nat.reduceLeDiff, Nat.reduceEqDiff, Nat.reduceMul, Int.reduceToNat, reduceIte, wf_i64, Int.reduceLE, Int.reduceNeg, beq_self_eq_true, decide_true, decide_false, ybeq_some, ybeq_none, beqT, beqF, empty_toList, exs, cProg]; rfl) ?_
  refine runk_call rfl rfl rfl rfl rfl (by simp) (cvs_cons cv_refl (cvs_cons cv_refl cvs_nil)) (same_ok L hl _) ?_
  refine runk_split 5 (by simp only [exec, stepQ, wantA, yieldA, kind, qv, qv1, qv2, stO, adrId, dataC, replC, eqNil, binNil, shiftInt, A.down, A1.up, downs, toR, ev, putS, rowO, ofConst, cellsA, cellsC, asC, asCs, ld, ldR, bin, binInt, binStr, binBool, sliceOf, bndOf, repl, fillC, zeroC, chunks, ptrIds, tabs, upd_app, mem_nil_app, entry_zero, entry_succ, entry_nil, top_app, maxStr, ByteArray.size, A.kill, O.kill, killS_app, killM_app, Nat.reduceAdd, Nat.reduceLeDiff, Nat.reduceEqDiff, Nat.reduceMul, Int.reduceToNat, reduceIte, wf_i64, Int.reduceLE, Int.reduceNeg, beq_self_eq_true, decide_true, decide_false, ybeq_some, ybeq_none, beqT, beqF, empty_toList, exs, cProg]; rfl) ?_
  refine runk_call rfl rfl rfl rfl rfl (by simp) (cvs_cons cv_refl (cvs_cons cv_refl (cvs_cons cv_refl cvs_nil))) (h5 _) ?_
  refine runk_split 3 (by simp only [exec, stepQ, wantA, yieldA, kind, qv, qv1, qv2, stO, adrId, dataC, replC, eqNil, binNil, shiftInt, A.down, A1.up, downs, toR, ev, putS, rowO, ofConst, cellsA, cellsC, asC, asCs, ld, ldR, bin, binInt, binStr, binBool, sliceOf, bndOf, repl, fillC, zeroC, chunks, ptrIds, tabs, upd_app, mem_nil_app, entry_zero, entry_succ, entry_nil, top_app, maxStr, ByteArray.size, A.kill, O.kill, killS_app, killM_app, Nat.reduceAdd, Nat.reduceLeDiff, Nat.reduceEqDiff, Nat.reduceMul, Int.reduceToNat, reduceIte, wf_i64, Int.reduceLE, Int.reduceNeg, beq_self_eq_true, decide_true, decide_false, ybeq_some, ybeq_none, beqT, beqF, empty_toList, exs, cProg]; rfl) ?_
  refine runk_call rfl rfl rfl rfl rfl (by simp) (cvs_cons cv_refl (cvs_cons cv_refl (cvs_cons cv_refl cvs_nil))) (h6 _) ?_
  refine runk_exec (by simp only [exec, stepQ, wantA, yieldA, kind, qv, qv1, qv2, stO, adrId, dataC, replC, eqNil, binNil, shiftInt, A.down, A1.up, downs, toR, ev, putS, rowO, ofConst, cellsA, cellsC, asC, asCs, ld, ldR, bin, binInt, binStr, binBool, sliceOf, bndOf, repl, fillC, zeroC, chunks, ptrIds, tabs, upd_app, mem_nil_app, entry_zero, entry_succ, entry_nil, top_app, maxStr, ByteArray.size, A.kill, O.kill, killS_app, killM_app, Nat.reduceAdd, Nat.reduceLeDiff, Nat.reduceEqDiff, Nat.reduceMul, Int.reduceToNat, reduceIte, wf_i64, Int.reduceLE, Int.reduceNeg, beq_self_eq_true, decide_true, decide_false, ybeq_some, ybeq_none, beqT, beqF, empty_toList, exs]; rfl) ?_
  refine W.ret ⟨.inr rfl, by rfl, ?_⟩
  simp only [Try.f4, resA, resOne, toT, fin, exec, stepQ, wantA, yieldA, kind, qv, qv1, qv2, stO, adrId, dataC, replC, eqNil, binNil, shiftInt, A.down, A1.up, downs, toR, ev, putS, rowO, ofConst, cellsA, cellsC, asC, asCs, ld, ldR, bin, binInt, binStr, binBool, sliceOf, bndOf, repl, fillC, zeroC, chunks, ptrIds, tabs, upd_app, mem_nil_app, entry_zero, entry_succ, entry_nil, top_app, maxStr, ByteArray.size, A.kill, O.kill, killS_app, killM_app, Nat.reduceAdd, Nat.reduceLeDiff, Nat.reduceEqDiff, Nat.reduceMul, Int.reduceToNat, reduceIte, wf_i64, Int.reduceLE, Int.reduceNeg, beq_self_eq_true, decide_true, decide_false, ybeq_some, ybeq_none, beqT, beqF, empty_toList, exs]
end V
end Go.Proofs.Ytjciafpihdbedaa
end
section
set_option linter.unusedVariables false
set_option linter.unusedSimpArgs false
namespace Go.Proofs.Ytjciafpihdbedaa
namespace V
theorem belowR_iff {cs : List Class} {a b : ByteArray} : belowR 0 cs a b = true ↔ ∃ (i : Nat) (d : Class), (chainC cs (cs.length + 1) a)[i]? = some d ∧ d.name = b := by
  unfold belowR
  rw [chain_eq]
  unfold refChainF
  rw [if_pos rfl, chainF_chain, List.any_map, List.any_eq_true]
  constructor
  · rintro ⟨d, hd, h⟩
    obtain ⟨i, hi⟩ := List.getElem?_of_mem hd
    exact ⟨i, d, hi, (beq_bytes.1 h).symm⟩
  · rintro ⟨i, d, hi, rfl⟩
    exact ⟨d, List.mem_of_getElem? hi, beq_bytes.2 rfl⟩
theorem below_self {cs : List Class} {c : Class} (h : Same0 cs) (hc : c ∈ cs) : belowR 0 cs c.name c.name = true :=
  belowR_iff.2 ⟨0, c, by rw [chainC_self (find_uniq h.names hc)]; rfl, rfl⟩
theorem chain_len {cs : List Class} (h : Same0 cs) (a : ByteArray) : (chainC cs (cs.length + 1) a).length ≤ cs.length := by
  cases hf : cs.find? (nameIs a) with
  | none => simp [chainC, hf]
  | some c =>
    obtain ⟨rfl, hc⟩ := find_name hf
    exact h.len c hc
theorem chain_from {cs : List Class} (h : Same0 cs) {a : ByteArray} {i : Nat} {d : Class} (hd : (chainC cs (cs.length + 1) a)[i]? = some d) : chainC cs (cs.length + 1) d.name = (chainC cs (cs.length + 1) a).drop i := by
  have hdr := chainC_drop cs (cs.length + 1) i a d hd
  have hlen := chain_len h a
  have hi := (List.getElem?_eq_some_iff.1 hd).1
  have hl : (chainC cs (cs.length + 1 - i) d.name).length < cs.length + 1 - i := by
    rw [← hdr, List.length_drop]
    omega
  have := chainC_more cs (cs.length + 1 - i) i d.name hl
  rw [show cs.length + 1 - i + i = cs.length + 1 by omega] at this
  rw [this, hdr]
theorem below_trans {cs : List Class} {a b c : ByteArray} (h : Same0 cs) (h1 : belowR 0 cs a b = true) (h2 : belowR 0 cs b c = true) : belowR 0 cs a c = true := by
  obtain ⟨i, d, hd, rfl⟩ := belowR_iff.1 h1
  obtain ⟨j, e, he, rfl⟩ := belowR_iff.1 h2
  rw [chain_from h hd, List.getElem?_drop] at he
  exact belowR_iff.2 ⟨_, e, he, rfl⟩
theorem below_anti {cs : List Class} {a b : ByteArray} (h : Same0 cs) (h1 : belowR 0 cs a b = true) (h2 : belowR 0 cs b a = true) : a = b := by
  obtain ⟨i, d, hd, rfl⟩ := belowR_iff.1 h1
  obtain ⟨j, e, he, rfl⟩ := belowR_iff.1 h2
  have e1 := chain_from h hd
  have e2 := chain_from h he
  have hi := (List.getElem?_eq_some_iff.1 hd).1
  have l1 := congrArg List.length e1
  have l2 := congrArg List.length e2
  rw [List.length_drop] at l1 l2
  have : i = 0 := by omega
  subst this
  cases hf : cs.find? (nameIs e.name) with
  | none => rw [chainC, hf] at hd; simp at hd
  | some c =>
    rw [chainC, hf] at hd
    simp at hd
    subst hd
    exact (find_name hf).1.symm
end V
end Go.Proofs.Ytjciafpihdbedaa
end
section
set_option linter.unusedVariables false
set_option linter.unusedSimpArgs false
namespace Go.Proofs.Ytjciafpihdbedaa
namespace V
open Go.RowKit
set_option linter.unusedSimpArgs false
theorem below_err {E : Int} {cs : List Class} {a b : ByteArray} (h : E ≠ 0) : belowR E cs a b = false := by simp [belowR, chainR, h]
set_option maxHeartbeats 4000000 in
theorem lawOrder_ok (p : Program) (a b c : ByteArray) (hS : SmallC p.classes) (hlen : p.classes.length ≤ 1048576) (m : Mem) : COk Try.prog 5 [.agg (cProg p), .c (.str a), .c (.str b), .c (.str c)] m (.c (.bool true)) := by
  have h1 := chk_ok p hS hlen
  have hB := fun (x y : ByteArray) m => below_ok p (chkErr (errP p) p.classes) x y (by omega) h1 m
  have hE : chkErr (errP p) p.classes = 0 → Same0 p.classes := chkErr_zero
  generalize chkErr (errP p) p.classes = E at h1 hB hE
  have hcp : cProg p = [.sl (p.classes.map cClass), .sl (cStmts p.main)] := rfl
  refine (ok_pure tab_ok Try.func5 (by kernel_rfl) rfl rfl (by rfl) (by rfl) (by rfl) (fun R hkeep => ?_) m)
  repeat (first | refine W.seq ?_ | refine W.block ?_ | refine W.skip ?_ | refine W.exit ?_ | refine W.region tab_ok 0 (by decide) (exec_run (by simp only [exec, stepQ, wantA, yieldA, kind, qv, qv1, qv2, stO, adrId, dataC, replC, eqNil, binNil, shiftInt, A.down, A1.up, downs, toR, ev, putS, rowO, ofConst, cellsA, cellsC, asC, asCs, ld, ldR, bin, binInt, binStr, binBool, sliceOf, bndOf, repl, fillC, zeroC, chunks, ptrIds, tabs, upd_app, mem_nil_app, entry_zero, entry_succ, entry_nil, top_app, maxStr, ByteArray.size, A.kill, O.kill, killS_app, killM_app, Nat.reduceAdd, Nat.reduceLeDiff, Nat.reduceEqDiff, Nat.reduceMul, Int.reduceToNat, reduceIte, wf_i64, Int.reduceLE, Int.reduceNeg, beq_self_eq_true, decide_true, decide_false, ybeq_some, ybeq_none, beqT, beqF, empty_toList, exs, cProg]; rfl)) ?_)
  refine W.regionK tab_ok 0 (by decide) ?_
  refine runk_split 0 (by simp only [exec, stepQ, wantA, yieldA, kind, qv, qv1, qv2, stO, adrId, dataC, replC, eqNil, binNil, shiftInt, A.down, A1.up, downs, toR, ev, putS, rowO, ofConst, cellsA, cellsC, asC, asCs, ld, ldR, bin, binInt, binStr, binBool, sliceOf, bndOf, repl, fillC, zeroC, chunks, ptrIds, tabs, upd_app, mem_nil_app, entry_zero, entry_succ, entry_nil, top_app, maxStr, ByteArray.size, A.kill, O.kill, killS_app, killM_app, Nat.reduceAdd, Nat.reduceLeDiff, Nat.reduceEqDiff, Nat.reduceMul, Int.reduceToNat, reduceIte, wf_i64, Int.reduceLE, Int.reduceNeg, beq_self_eq_true, decide_true, decide_false, ybeq_some, ybeq_none, beqT, beqF, empty_toList, exs]; rfl) ?_
  refine runk_call rfl rfl rfl rfl rfl (by simp) cvs_nil (live_ok _) ?_
  refine runk_exec (by simp only [exec, stepQ, wantA, yieldA, kind, qv, qv1, qv2, stO, adrId, dataC, replC, eqNil, binNil, shiftInt, A.down, A1.up, downs, toR, ev, putS, rowO, ofConst, cellsA, cellsC, asC, asCs, ld, ldR, bin, binInt, binStr, binBool, sliceOf, bndOf, repl, fillC, zeroC, chunks, ptrIds, tabs, upd_app, mem_nil_app, entry_zero, entry_succ, entry_nil, top_app, maxStr, ByteArray.size, A.kill, O.kill, killS_app, killM_app, Nat.reduceAdd, Nat.reduceLeDiff, Nat.reduceEqDiff, Nat.reduceMul, Int.reduceToNat, reduceIte, wf_i64, Int.reduceLE, Int.reduceNeg, beq_self_eq_true, decide_true, decide_false, ybeq_some, ybeq_none, beqT, beqF, empty_toList, exs]; rfl) ?_
  repeat (first | refine W.seq ?_ | refine W.block ?_ | refine W.skip ?_ | refine W.exit ?_ | refine W.region tab_ok 0 (by decide) (exec_run (by simp only [exec, stepQ, wantA, yieldA, kind, qv, qv1, qv2, stO, adrId, dataC, replC, eqNil, binNil, shiftInt, A.down, A1.up, downs, toR, ev, putS, rowO, ofConst, cellsA, cellsC, asC, asCs, ld, ldR, bin, binInt, binStr, binBool, sliceOf, bndOf, repl, fillC, zeroC, chunks, ptrIds, tabs, upd_app, mem_nil_app, entry_zero, entry_succ, entry_nil, top_app, maxStr, ByteArray.size, A.kill, O.kill, killS_app, killM_app, Nat.reduceAdd, Nat.reduceLeDiff, Nat.reduceEqDiff, Nat.reduceMul, Int.reduceToNat, reduceIte, wf_i64, Int.reduceLE, Int.reduceNeg, beq_self_eq_true, decide_true, decide_false, ybeq_some, ybeq_none, beqT, beqF, empty_toList, exs]; rfl)) ?_)
  refine W.regionK tab_ok 0 (by decide) ?_
  refine runk_split 1 (by simp only [exec, stepQ, wantA, yieldA, kind, qv, qv1, qv2, stO, adrId, dataC, replC, eqNil, binNil, shiftInt, A.down, A1.up, downs, toR, ev, putS, rowO, ofConst, cellsA, cellsC, asC, asCs, ld, ldR, bin, binInt, binStr, binBool, sliceOf, bndOf, repl, fillC, zeroC, chunks, ptrIds, tabs, upd_app, mem_nil_app, entry_zero, entry_succ, entry_nil, top_app, maxStr, ByteArray.size, A.kill, O.kill, killS_app, killM_app, Nat.reduceAdd, Nat.reduceLeDiff, Nat.reduceEqDiff, Nat.reduceMul, Int.reduceToNat, reduceIte, wf_i64, Int.reduceLE, Int.reduceNeg, beq_self_eq_true, decide_true, decide_false, ybeq_some, ybeq_none, beqT, beqF, empty_toList, exs, cProg]; rfl) ?_
  refine runk_call rfl rfl rfl rfl rfl (by simp) (cvs_cons cv_refl cvs_nil) (h1 _) ?_
  refine runk_exec (by simp only [exec, stepQ, wantA, yieldA, kind, qv, qv1, qv2, stO, adrId, dataC, replC, eqNil, binNil, shiftInt, A.down, A1.up, downs, toR, ev, putS, rowO, ofConst, cellsA, cellsC, asC, asCs, ld, ldR, bin, binInt, binStr, binBool, sliceOf, bndOf, repl, fillC, zeroC, chunks, ptrIds, tabs, upd_app, mem_nil_app, entry_zero, entry_succ, entry_nil, top_app, maxStr, ByteArray.size, A.kill, O.kill, killS_app, killM_app, Nat.reduceAdd, Nat.reduceLeDiff, Nat.reduceEqDiff, Nat.reduceMul, Int.reduceToNat, reduceIte, wf_i64, Int.reduceLE, Int.reduceNeg, beq_self_eq_true, decide_true, decide_false, ybeq_some, ybeq_none, beqT, beqF, empty_toList, exs]; rfl) ?_
  refine W.cond rfl ?_ ?_
  · intro h
    have he : E ≠ 0 := by simpa using h
    repeat (first | refine W.seq ?_ | refine W.block ?_ | refine W.skip ?_ | refine W.exit ?_ | refine W.region tab_ok 0 (by decide) (exec_run (by simp only [exec, stepQ, wantA, yieldA, kind, qv, qv1, qv2, stO, adrId, dataC, replC, eqNil, binNil, shiftInt, A.down, A1.up, downs, toR, ev, putS, rowO, ofConst, cellsA, cellsC, asC, asCs, ld, ldR, bin, binInt, binStr, binBool, sliceOf, bndOf, repl, fillC, zeroC, chunks, ptrIds, tabs, upd_app, mem_nil_app, entry_zero, entry_succ, entry_nil, top_app, maxStr, ByteArray.size, A.kill, O.kill, killS_app, killM_app, Nat.reduceAdd, Nat.reduceLeDiff, Nat.reduceEqDiff, Nat.reduceMul, Int.reduceToNat, reduceIte, wf_i64, Int.reduceLE, Int.reduceNeg, beq_self_eq_true, decide_true, decide_false, ybeq_some, ybeq_none, beqT, beqF, empty_toList, exs]; rfl)) ?_)
    refine W.regionK tab_ok 0 (by decide) ?_
    refine runk_split 5 (by simp only [exec, stepQ, wantA, yieldA, kind, qv, qv1, qv2, stO, adrId, dataC, replC, eqNil, binNil, shiftInt, A.down, A1.up, downs, toR, ev, putS, rowO, ofConst, cellsA, cellsC, asC, asCs, ld, ldR, bin, binInt, binStr, binBool, sliceOf, bndOf, repl, fillC, zeroC, chunks, ptrIds, tabs, upd_app, mem_nil_app, entry_zero, entry_succ, entry_nil, top_app, maxStr, ByteArray.size, A.kill, O.kill, killS_app, killM_app, Nat.reduceAdd, Nat.reduceLeDiff, Nat.reduceEqDiff, Nat.reduceMul, Int.reduceToNat, reduceIte, wf_i64, Int.reduceLE, Int.reduceNeg, beq_self_eq_true, decide_true, decide_false, ybeq_some, ybeq_none, beqT, beqF, empty_toList, exs, cProg]; rfl) ?_
    refine runk_call rfl rfl rfl rfl rfl (by simp) (cvs_cons cv_refl (cvs_cons cv_refl (cvs_cons cv_refl cvs_nil))) (hB a b _) ?_
    rw [below_err he]
    refine runk_exec (by simp only [exec, stepQ, wantA, yieldA, kind, qv, qv1, qv2, stO, adrId, dataC, replC, eqNil, binNil, shiftInt, A.down, A1.up, downs, toR, ev, putS, rowO, ofConst, cellsA, cellsC, asC, asCs, ld, ldR, bin, binInt, binStr, binBool, sliceOf, bndOf, repl, fillC, zeroC, chunks, ptrIds, tabs, upd_app, mem_nil_app, entry_zero, entry_succ, entry_nil, top_app, maxStr, ByteArray.size, A.kill, O.kill, killS_app, killM_app, Nat.reduceAdd, Nat.reduceLeDiff, Nat.reduceEqDiff, Nat.reduceMul, Int.reduceToNat, reduceIte, wf_i64, Int.reduceLE, Int.reduceNeg, beq_self_eq_true, decide_true, decide_false, ybeq_some, ybeq_none, beqT, beqF, empty_toList, exs]; rfl) ?_
    refine W.ret ⟨.inr rfl, by rfl, ?_⟩
    simp only [Try.f5, resA, resOne, toT, fin, exec, stepQ, wantA, yieldA, kind, qv, qv1, qv2, stO, adrId, dataC, replC, eqNil, binNil, shiftInt, A.down, A1.up, downs, toR, ev, putS, rowO, ofConst, cellsA, cellsC, asC, asCs, ld, ldR, bin, binInt, binStr, binBool, sliceOf, bndOf, repl, fillC, zeroC, chunks, ptrIds, tabs, upd_app, mem_nil_app, entry_zero, entry_succ, entry_nil, top_app, maxStr, ByteArray.size, A.kill, O.kill, killS_app, killM_app, Nat.reduceAdd, Nat.reduceLeDiff, Nat.reduceEqDiff, Nat.reduceMul, Int.reduceToNat, reduceIte, wf_i64, Int.reduceLE, Int.reduceNeg, beq_self_eq_true, decide_true, decide_false, ybeq_some, ybeq_none, beqT, beqF, empty_toList, exs]
  intro h
  have he : E = 0 := by simpa using h
  subst he
  have hsame := hE rfl
  repeat (first | refine W.seq ?_ | refine W.block ?_ | refine W.skip ?_ | refine W.exit ?_ | refine W.region tab_ok 0 (by decide) (exec_run (by simp only [exec, stepQ, wantA, yieldA, kind, qv, qv1, qv2, stO, adrId, dataC, replC, eqNil, binNil, shiftInt, A.down, A1.up, downs, toR, ev, putS, rowO, ofConst, cellsA, cellsC, asC, asCs, ld, ldR, bin, binInt, binStr, binBool, sliceOf, bndOf, repl, fillC, zeroC, chunks, ptrIds, tabs, upd_app, mem_nil_app, entry_zero, entry_succ, entry_nil, top_app, maxStr, ByteArray.size, A.kill, O.kill, killS_app, killM_app, Nat.reduceAdd, Nat.reduceLeDiff, Nat.reduceEqDiff, Nat.reduceMul, Int.reduceToNat, reduceIte, wf_i64, Int.reduceLE, Int.reduceNeg, beq_self_eq_true, decide_true, decide_false, ybeq_some, ybeq_none, beqT, beqF, empty_toList, exs, cProg]; rfl)) ?_)
  refine W.loop (ι := Nat) (fun k => ⟨upd (upd (upd (upd (upd (upd (upd (upd (fun _ => .top) 1 (.c (.str a))) 2 (.c (.str b))) 3 (.c (.str c))) 4 (.ptr 4 0)) 9 (.c (.bool true))) 25 (.c (.sl (p.classes.map cClass)))) 26 (.c (.int .i64 p.classes.length))) 27 (.c (.int .i64 k)), upd Mem.nil 4 (some (.box 25 ((cProg p).map A.c)))⟩)
    (fun k => k ≤ p.classes.length) (fun k => p.classes.length - k) 0 ?start (Nat.zero_le _) ?round
  case start =>
    refine le_mk ?sle ?mle ?swf ?mwf ?kept (by rfl)
    case kept => exact kept_not hkeep
    case swf => repeat (first | exact swf_top _ | refine swf_upd ?_ (by simp [A.ids, upd_app]))
    case mwf => repeat (first | exact mwf_nil _ | refine mwf_upd ?_ (by simp [A.ids, O.ids, upd_app]))
    case mle => repeat (first | exact mle_nil _ | exact mle_refl _ | refine mle_upd ?_ (by first | rfl | (simp only [upd_app, killM_app, Nat.reduceEqDiff, reduceIte]; done)))
    case sle => repeat (first | exact sle_top _ | exact sle_refl _ | refine sle_upd ?_ (by first | rfl | (simp only [upd_app, entry_zero, entry_succ, Nat.reduceEqDiff, reduceIte]; done)))
  case round =>
    intro k hk
    repeat (first | refine W.seq ?_ | refine W.block ?_ | refine W.skip ?_ | refine W.exit ?_ | refine W.region tab_ok 0 (by decide) (exec_run (by simp only [exec, stepQ, wantA, yieldA, kind, qv, qv1, qv2, stO, adrId, dataC, replC, eqNil, binNil, shiftInt, A.down, A1.up, downs, toR, ev, putS, rowO, ofConst, cellsA, cellsC, asC, asCs, ld, ldR, bin, binInt, binStr, binBool, sliceOf, bndOf, repl, fillC, zeroC, chunks, ptrIds, tabs, upd_app, mem_nil_app, entry_zero, entry_succ, entry_nil, top_app, maxStr, ByteArray.size, A.kill, O.kill, killS_app, killM_app, Nat.reduceAdd, Nat.reduceLeDiff, Nat.reduceEqDiff, Nat.reduceMul, Int.reduceToNat, reduceIte, wf_i64, Int.reduceLE, Int.reduceNeg, beq_self_eq_true, decide_true, decide_false, ybeq_some, ybeq_none, beqT, beqF, empty_toList, exs]; rfl)) ?_)
    refine W.cond rfl ?_ ?_
    · intro hlt
      simp only [decide_eq_true_eq, Int.ofNat_lt] at hlt
      obtain ⟨x, hx⟩ : ∃ x, p.classes[k]? = some x := ⟨_, List.getElem?_eq_getElem hlt⟩
      repeat (first | refine W.seq ?_ | refine W.block ?_ | refine W.skip ?_ | refine W.exit ?_ | refine W.region tab_ok 0 (by decide) (exec_run (by simp only [exec, stepQ, wantA, yieldA, kind, qv, qv1, qv2, stO, adrId, dataC, replC, eqNil, binNil, shiftInt, A.down, A1.up, downs, toR, ev, putS, rowO, ofConst, cellsA, cellsC, asC, asCs, ld, ldR, bin, binInt, binStr, binBool, sliceOf, bndOf, repl, fillC, zeroC, chunks, ptrIds, tabs, upd_app, mem_nil_app, entry_zero, entry_succ, entry_nil, top_app, maxStr, ByteArray.size, A.kill, O.kill, killS_app, killM_app, Nat.reduceAdd, Nat.reduceLeDiff, Nat.reduceEqDiff, Nat.reduceMul, Int.reduceToNat, reduceIte, wf_i64, Int.reduceLE, Int.reduceNeg, beq_self_eq_true, decide_true, decide_false, ybeq_some, ybeq_none, beqT, beqF, empty_toList, exs, at_map hx, cClass, cProg]; rfl)) ?_)
      refine W.regionK tab_ok 0 (by decide) ?_
      refine runk_split 5 (by simp only [exec, stepQ, wantA, yieldA, kind, qv, qv1, qv2, stO, adrId, dataC, replC, eqNil, binNil, shiftInt, A.down, A1.up, downs, toR, ev, putS, rowO, ofConst, cellsA, cellsC, asC, asCs, ld, ldR, bin, binInt, binStr, binBool, sliceOf, bndOf, repl, fillC, zeroC, chunks, ptrIds, tabs, upd_app, mem_nil_app, entry_zero, entry_succ, entry_nil, top_app, maxStr, ByteArray.size, A.kill, O.kill, killS_app, killM_app, Nat.reduceAdd, Nat.reduceLeDiff, Nat.reduceEqDiff, Nat.reduceMul, Int.reduceToNat, reduceIte, wf_i64, Int.reduceLE, Int.reduceNeg, beq_self_eq_true, decide_true, decide_false, ybeq_some, ybeq_none, beqT, beqF, empty_toList, exs, cProg]; rfl) ?_
      refine runk_call rfl rfl rfl rfl rfl (by simp) (cvs_cons cv_refl (cvs_cons cv_refl (cvs_cons cv_refl cvs_nil))) (hB x.name x.name _) ?_
      rw [below_self hsame (List.mem_of_getElem? hx)]
      refine runk_exec (by simp only [exec, stepQ, wantA, yieldA, kind, qv, qv1, qv2, stO, adrId, dataC, replC, eqNil, binNil, shiftInt, A.down, A1.up, downs, toR, ev, putS, rowO, ofConst, cellsA, cellsC, asC, asCs, ld, ldR, bin, binInt, binStr, binBool, sliceOf, bndOf, repl, fillC, zeroC, chunks, ptrIds, tabs, upd_app, mem_nil_app, entry_zero, entry_succ, entry_nil, top_app, maxStr, ByteArray.size, A.kill, O.kill, killS_app, killM_app, Nat.reduceAdd, Nat.reduceLeDiff, Nat.reduceEqDiff, Nat.reduceMul, Int.reduceToNat, reduceIte, wf_i64, Int.reduceLE, Int.reduceNeg, beq_self_eq_true, decide_true, decide_false, ybeq_some, ybeq_none, beqT, beqF, empty_toList, exs]; rfl) ?_
      refine W.cond rfl ?_ ?_
      · intro h
        simp at h
      · intro h
        repeat (first | refine W.seq ?_ | refine W.block ?_ | refine W.skip ?_ | refine W.exit ?_ | refine W.region tab_ok 0 (by decide) (exec_run (by simp only [exec, stepQ, wantA, yieldA, kind, qv, qv1, qv2, stO, adrId, dataC, replC, eqNil, binNil, shiftInt, A.down, A1.up, downs, toR, ev, putS, rowO, ofConst, cellsA, cellsC, asC, asCs, ld, ldR, bin, binInt, binStr, binBool, sliceOf, bndOf, repl, fillC, zeroC, chunks, ptrIds, tabs, upd_app, mem_nil_app, entry_zero, entry_succ, entry_nil, top_app, maxStr, ByteArray.size, A.kill, O.kill, killS_app, killM_app, Nat.reduceAdd, Nat.reduceLeDiff, Nat.reduceEqDiff, Nat.reduceMul, Int.reduceToNat, reduceIte, wf_i64, Int.reduceLE, Int.reduceNeg, beq_self_eq_true, decide_true, decide_false, ybeq_some, ybeq_none, beqT, beqF, empty_toList, exs]; rfl)) ?_)
        refine ⟨k + 1, hlt, by omega, ?_⟩
        refine le_mk ?sle ?mle ?swf ?mwf ?kept (by rfl)
        case kept => exact kept_not hkeep
        case swf => repeat (first | exact swf_top _ | refine swf_upd ?_ (by simp [A.ids, upd_app]))
        case mwf => repeat (first | exact mwf_nil _ | refine mwf_upd ?_ (by simp [A.ids, O.ids, upd_app]))
        case mle => repeat (first | exact mle_nil _ | exact mle_refl _ | refine mle_upd ?_ (by first | rfl | (simp only [upd_app, killM_app, Nat.reduceEqDiff, reduceIte, wrap_succ (show k + 1 < 9223372036854775808 by omega)]; done)))
        case sle => repeat (first | exact sle_top _ | exact sle_refl _ | refine sle_upd ?_ (by first | rfl | (simp only [upd_app, entry_zero, entry_succ, Nat.reduceEqDiff, reduceIte, wrap_succ (show k + 1 < 9223372036854775808 by omega)]; done)))
    · intro hge
      have hab := hB a b
      have hba := hB b a
      have hbc := hB b c
      have hac := hB a c
      have hT := below_trans (a := a) (b := b) (c := c) hsame
      have hA := below_anti (a := a) (b := b) hsame
      generalize belowR 0 p.classes a b = B1 at hab hT hA
      generalize belowR 0 p.classes b a = B2 at hba hA
      generalize belowR 0 p.classes b c = B3 at hbc hT
      generalize belowR 0 p.classes a c = B4 at hac hT
      cases hn : (a.toList == b.toList) with
      | true =>
        repeat (first | refine W.seq ?_ | refine W.block ?_ | refine W.skip ?_ | refine W.exit ?_ | refine W.region tab_ok 0 (by decide) (exec_run (by simp only [exec, stepQ, wantA, yieldA, kind, qv, qv1, qv2, stO, adrId, dataC, replC, eqNil, binNil, shiftInt, A.down, A1.up, downs, toR, ev, putS, rowO, ofConst, cellsA, cellsC, asC, asCs, ld, ldR, bin, binInt, binStr, binBool, sliceOf, bndOf, repl, fillC, zeroC, chunks, ptrIds, tabs, upd_app, mem_nil_app, entry_zero, entry_succ, entry_nil, top_app, maxStr, ByteArray.size, A.kill, O.kill, killS_app, killM_app, Nat.reduceAdd, Nat.reduceLeDiff, Nat.reduceEqDiff, Nat.reduceMul, Int.reduceToNat, reduceIte, wf_i64, Int.reduceLE, Int.reduceNeg, beq_self_eq_true, decide_true, decide_false, ybeq_some, ybeq_none, beqT, beqF, empty_toList, exs, hn]; rfl)) ?_)
        refine W.cond rfl (fun h => by simp at h) (fun _ => ?_)
        cases B1
        · refine id ?_
          repeat (first | refine W.seq ?_ | refine W.block ?_ | refine W.skip ?_ | refine W.exit ?_ | refine W.region tab_ok 0 (by decide) (exec_run (by simp only [exec, stepQ, wantA, yieldA, kind, qv, qv1, qv2, stO, adrId, dataC, replC, eqNil, binNil, shiftInt, A.down, A1.up, downs, toR, ev, putS, rowO, ofConst, cellsA, cellsC, asC, asCs, ld, ldR, bin, binInt, binStr, binBool, sliceOf, bndOf, repl, fillC, zeroC, chunks, ptrIds, tabs, upd_app, mem_nil_app, entry_zero, entry_succ, entry_nil, top_app, maxStr, ByteArray.size, A.kill, O.kill, killS_app, killM_app, Nat.reduceAdd, Nat.reduceLeDiff, Nat.reduceEqDiff, Nat.reduceMul, Int.reduceToNat, reduceIte, wf_i64, Int.reduceLE, Int.reduceNeg, beq_self_eq_true, decide_true, decide_false, ybeq_some, ybeq_none, beqT, beqF, empty_toList, exs]; rfl)) ?_)
          refine W.regionK tab_ok 0 (by decide) ?_
          refine runk_split 5 (by simp only [exec, stepQ, wantA, yieldA, kind, qv, qv1, qv2, stO, adrId, dataC, replC, eqNil, binNil, shiftInt, A.down, A1.up, downs, toR, ev, putS, rowO, ofConst, cellsA, cellsC, asC, asCs, ld, ldR, bin, binInt, binStr, binBool, sliceOf, bndOf, repl, fillC, zeroC, chunks, ptrIds, tabs, upd_app, mem_nil_app, entry_zero, entry_succ, entry_nil, top_app, maxStr, ByteArray.size, A.kill, O.kill, killS_app, killM_app, Nat.reduceAdd, Nat.reduceLeDiff, Nat.reduceEqDiff, Nat.reduceMul, Int.reduceToNat, reduceIte, wf_i64, Int.reduceLE, Int.reduceNeg, beq_self_eq_true, decide_true, decide_false, ybeq_some, ybeq_none, beqT, beqF, empty_toList, exs, cProg]; rfl) ?_
          refine runk_call rfl rfl rfl rfl rfl (by simp) (cvs_cons cv_refl (cvs_cons cv_refl (cvs_cons cv_refl cvs_nil))) (hab _) ?_
          refine runk_exec (by simp only [exec, stepQ, wantA, yieldA, kind, qv, qv1, qv2, stO, adrId, dataC, replC, eqNil, binNil, shiftInt, A.down, A1.up, downs, toR, ev, putS, rowO, ofConst, cellsA, cellsC, asC, asCs, ld, ldR, bin, binInt, binStr, binBool, sliceOf, bndOf, repl, fillC, zeroC, chunks, ptrIds, tabs, upd_app, mem_nil_app, entry_zero, entry_succ, entry_nil, top_app, maxStr, ByteArray.size, A.kill, O.kill, killS_app, killM_app, Nat.reduceAdd, Nat.reduceLeDiff, Nat.reduceEqDiff, Nat.reduceMul, Int.reduceToNat, reduceIte, wf_i64, Int.reduceLE, Int.reduceNeg, beq_self_eq_true, decide_true, decide_false, ybeq_some, ybeq_none, beqT, beqF, empty_toList, exs]; rfl) ?_
          refine W.ret ⟨.inr rfl, by rfl, ?_⟩
          simp only [Try.f5, resA, resOne, toT, fin, exec, stepQ, wantA, yieldA, kind, qv, qv1, qv2, stO, adrId, dataC, replC, eqNil, binNil, shiftInt, A.down, A1.up, downs, toR, ev, putS, rowO, ofConst, cellsA, cellsC, asC, asCs, ld, ldR, bin, binInt, binStr, binBool, sliceOf, bndOf, repl, fillC, zeroC, chunks, ptrIds, tabs, upd_app, mem_nil_app, entry_zero, entry_succ, entry_nil, top_app, maxStr, ByteArray.size, A.kill, O.kill, killS_app, killM_app, Nat.reduceAdd, Nat.reduceLeDiff, Nat.reduceEqDiff, Nat.reduceMul, Int.reduceToNat, reduceIte, wf_i64, Int.reduceLE, Int.reduceNeg, beq_self_eq_true, decide_true, decide_false, ybeq_some, ybeq_none, beqT, beqF, empty_toList, exs]
        · refine id ?_
          cases B3
          · refine id ?_
            repeat (first | refine W.seq ?_ | refine W.block ?_ | refine W.skip ?_ | refine W.exit ?_ | refine W.region tab_ok 0 (by decide) (exec_run (by simp only [exec, stepQ, wantA, yieldA, kind, qv, qv1, qv2, stO, adrId, dataC, replC, eqNil, binNil, shiftInt, A.down, A1.up, downs, toR, ev, putS, rowO, ofConst, cellsA, cellsC, asC, asCs, ld, ldR, bin, binInt, binStr, binBool, sliceOf, bndOf, repl, fillC, zeroC, chunks, ptrIds, tabs, upd_app, mem_nil_app, entry_zero, entry_succ, entry_nil, top_app, maxStr, ByteArray.size, A.kill, O.kill, killS_app, killM_app, Nat.reduceAdd, Nat.reduceLeDiff, Nat.reduceEqDiff, Nat.reduceMul, Int.reduceToNat, reduceIte, wf_i64, Int.reduceLE, Int.reduceNeg, beq_self_eq_true, decide_true, decide_false, ybeq_some, ybeq_none, beqT, beqF, empty_toList, exs]; rfl)) ?_)
            refine W.regionK tab_ok 0 (by decide) ?_
            refine runk_split 5 (by simp only [exec, stepQ, wantA, yieldA, kind, qv, qv1, qv2, stO, adrId, dataC, replC, eqNil, binNil, shiftInt, A.down, A1.up, downs, toR, ev, putS, rowO, ofConst, cellsA, cellsC, asC, asCs, ld, ldR, bin, binInt, binStr, binBool, sliceOf, bndOf, repl, fillC, zeroC, chunks, ptrIds, tabs, upd_app, mem_nil_app, entry_zero, entry_succ, entry_nil, top_app, maxStr, ByteArray.size, A.kill, O.kill, killS_app, killM_app, Nat.reduceAdd, Nat.reduceLeDiff, Nat.reduceEqDiff, Nat.reduceMul, Int.reduceToNat, reduceIte, wf_i64, Int.reduceLE, Int.reduceNeg, beq_self_eq_true, decide_true, decide_false, ybeq_some, ybeq_none, beqT, beqF, empty_toList, exs, cProg]; rfl) ?_
            refine runk_call rfl rfl rfl rfl rfl (by simp) (cvs_cons cv_refl (cvs_cons cv_refl (cvs_cons cv_refl cvs_nil))) (hab _) ?_
            refine runk_split 5 (by simp only [exec, stepQ, wantA, yieldA, kind, qv, qv1, qv2, stO, adrId, dataC, replC, eqNil, binNil, shiftInt, A.down, A1.up, downs, toR, ev, putS, rowO, ofConst, cellsA, cellsC, asC, asCs, ld, ldR, bin, binInt, binStr, binBool, sliceOf, bndOf, repl, fillC, zeroC, chunks, ptrIds, tabs, upd_app, mem_nil_app, entry_zero, entry_succ, entry_nil, top_app, maxStr, ByteArray.size, A.kill, O.kill, killS_app, killM_app, Nat.reduceAdd, Nat.reduceLeDiff, Nat.reduceEqDiff, Nat.reduceMul, Int.reduceToNat, reduceIte, wf_i64, Int.reduceLE, Int.reduceNeg, beq_self_eq_true, decide_true, decide_false, ybeq_some, ybeq_none, beqT, beqF, empty_toList, exs, cProg]; rfl) ?_
            refine runk_call rfl rfl rfl rfl rfl (by simp) (cvs_cons cv_refl (cvs_cons cv_refl (cvs_cons cv_refl cvs_nil))) (hbc _) ?_
            refine runk_exec (by simp only [exec, stepQ, wantA, yieldA, kind, qv, qv1, qv2, stO, adrId, dataC, replC, eqNil, binNil, shiftInt, A.down, A1.up, downs, toR, ev, putS, rowO, ofConst, cellsA, cellsC, asC, asCs, ld, ldR, bin, binInt, binStr, binBool, sliceOf, bndOf, repl, fillC, zeroC, chunks, ptrIds, tabs, upd_app, mem_nil_app, entry_zero, entry_succ, entry_nil, top_app, maxStr, ByteArray.size, A.kill, O.kill, killS_app, killM_app, Nat.reduceAdd, Nat.reduceLeDiff, Nat.reduceEqDiff, Nat.reduceMul, Int.reduceToNat, reduceIte, wf_i64, Int.reduceLE, Int.reduceNeg, beq_self_eq_true, decide_true, decide_false, ybeq_some, ybeq_none, beqT, beqF, empty_toList, exs]; rfl) ?_
            refine W.ret ⟨.inr rfl, by rfl, ?_⟩
            simp only [Try.f5, resA, resOne, toT, fin, exec, stepQ, wantA, yieldA, kind, qv, qv1, qv2, stO, adrId, dataC, replC, eqNil, binNil, shiftInt, A.down, A1.up, downs, toR, ev, putS, rowO, ofConst, cellsA, cellsC, asC, asCs, ld, ldR, bin, binInt, binStr, binBool, sliceOf, bndOf, repl, fillC, zeroC, chunks, ptrIds, tabs, upd_app, mem_nil_app, entry_zero, entry_succ, entry_nil, top_app, maxStr, ByteArray.size, A.kill, O.kill, killS_app, killM_app, Nat.reduceAdd, Nat.reduceLeDiff, Nat.reduceEqDiff, Nat.reduceMul, Int.reduceToNat, reduceIte, wf_i64, Int.reduceLE, Int.reduceNeg, beq_self_eq_true, decide_true, decide_false, ybeq_some, ybeq_none, beqT, beqF, empty_toList, exs]
          · obtain rfl : B4 = true := hT rfl rfl
            repeat (first | refine W.seq ?_ | refine W.block ?_ | refine W.skip ?_ | refine W.exit ?_ | refine W.region tab_ok 0 (by decide) (exec_run (by simp only [exec, stepQ, wantA, yieldA, kind, qv, qv1, qv2, stO, adrId, dataC, replC, eqNil, binNil, shiftInt, A.down, A1.up, downs, toR, ev, putS, rowO, ofConst, cellsA, cellsC, asC, asCs, ld, ldR, bin, binInt, binStr, binBool, sliceOf, bndOf, repl, fillC, zeroC, chunks, ptrIds, tabs, upd_app, mem_nil_app, entry_zero, entry_succ, entry_nil, top_app, maxStr, ByteArray.size, A.kill, O.kill, killS_app, killM_app, Nat.reduceAdd, Nat.reduceLeDiff, Nat.reduceEqDiff, Nat.reduceMul, Int.reduceToNat, reduceIte, wf_i64, Int.reduceLE, Int.reduceNeg, beq_self_eq_true, decide_true, decide_false, ybeq_some, ybeq_none, beqT, beqF, empty_toList, exs]; rfl)) ?_)
            refine W.regionK tab_ok 0 (by decide) ?_
            refine runk_split 5 (by simp only [exec, stepQ, wantA, yieldA, kind, qv, qv1, qv2, stO, adrId, dataC, replC, eqNil, binNil, shiftInt, A.down, A1.up, downs, toR, ev, putS, rowO, ofConst, cellsA, cellsC, asC, asCs, ld, ldR, bin, binInt, binStr, binBool, sliceOf, bndOf, repl, fillC, zeroC, chunks, ptrIds, tabs, upd_app, mem_nil_app, entry_zero, entry_succ, entry_nil, top_app, maxStr, ByteArray.size, A.kill, O.kill, killS_app, killM_app, Nat.reduceAdd, Nat.reduceLeDiff, Nat.reduceEqDiff, Nat.reduceMul, Int.reduceToNat, reduceIte, wf_i64, Int.reduceLE, Int.reduceNeg, beq_self_eq_true, decide_true, decide_false, ybeq_some, ybeq_none, beqT, beqF, empty_toList, exs, cProg]; rfl) ?_
            refine runk_call rfl rfl rfl rfl rfl (by simp) (cvs_cons cv_refl (cvs_cons cv_refl (cvs_cons cv_refl cvs_nil))) (hab _) ?_
            refine runk_split 5 (by simp only [exec, stepQ, wantA, yieldA, kind, qv, qv1, qv2, stO, adrId, dataC, replC, eqNil, binNil, shiftInt, A.down, A1.up, downs, toR, ev, putS, rowO, ofConst, cellsA, cellsC, asC, asCs, ld, ldR, bin, binInt, binStr, binBool, sliceOf, bndOf, repl, fillC, zeroC, chunks, ptrIds, tabs, upd_app, mem_nil_app, entry_zero, entry_succ, entry_nil, top_app, maxStr, ByteArray.size, A.kill, O.kill, killS_app, killM_app, Nat.reduceAdd, Nat.reduceLeDiff, Nat.reduceEqDiff, Nat.reduceMul, Int.reduceToNat, reduceIte, wf_i64, Int.reduceLE, Int.reduceNeg, beq_self_eq_true, decide_true, decide_false, ybeq_some, ybeq_none, beqT, beqF, empty_toList, exs, cProg]; rfl) ?_
            refine runk_call rfl rfl rfl rfl rfl (by simp) (cvs_cons cv_refl (cvs_cons cv_refl (cvs_cons cv_refl cvs_nil))) (hbc _) ?_
            refine runk_split 6 (by simp only [exec, stepQ, wantA, yieldA, kind, qv, qv1, qv2, stO, adrId, dataC, replC, eqNil, binNil, shiftInt, A.down, A1.up, downs, toR, ev, putS, rowO, ofConst, cellsA, cellsC, asC, asCs, ld, ldR, bin, binInt, binStr, binBool, sliceOf, bndOf, repl, fillC, zeroC, chunks, ptrIds, tabs, upd_app, mem_nil_app, entry_zero, entry_succ, entry_nil, top_app, maxStr, ByteArray.size, A.kill, O.kill, killS_app, killM_app, Nat.reduceAdd, Nat.reduceLeDiff, Nat.reduceEqDiff, Nat.reduceMul, Int.reduceToNat, reduceIte, wf_i64, Int.reduceLE, Int.reduceNeg, beq_self_eq_true, decide_true, decide_false, ybeq_some, ybeq_none, beqT, beqF, empty_toList, exs, cProg]; rfl) ?_
            refine runk_call rfl rfl rfl rfl rfl (by simp) (cvs_cons cv_refl (cvs_cons cv_refl (cvs_cons cv_refl cvs_nil))) (hac _) ?_
            refine runk_exec (by simp only [exec, stepQ, wantA, yieldA, kind, qv, qv1, qv2, stO, adrId, dataC, replC, eqNil, binNil, shiftInt, A.down, A1.up, downs, toR, ev, putS, rowO, ofConst, cellsA, cellsC, asC, asCs, ld, ldR, bin, binInt, binStr, binBool, sliceOf, bndOf, repl, fillC, zeroC, chunks, ptrIds, tabs, upd_app, mem_nil_app, entry_zero, entry_succ, entry_nil, top_app, maxStr, ByteArray.size, A.kill, O.kill, killS_app, killM_app, Nat.reduceAdd, Nat.reduceLeDiff, Nat.reduceEqDiff, Nat.reduceMul, Int.reduceToNat, reduceIte, wf_i64, Int.reduceLE, Int.reduceNeg, beq_self_eq_true, decide_true, decide_false, ybeq_some, ybeq_none, beqT, beqF, empty_toList, exs]; rfl) ?_
            refine W.ret ⟨.inr rfl, by rfl, ?_⟩
            simp only [Try.f5, resA, resOne, toT, fin, exec, stepQ, wantA, yieldA, kind, qv, qv1, qv2, stO, adrId, dataC, replC, eqNil, binNil, shiftInt, A.down, A1.up, downs, toR, ev, putS, rowO, ofConst, cellsA, cellsC, asC, asCs, ld, ldR, bin, binInt, binStr, binBool, sliceOf, bndOf, repl, fillC, zeroC, chunks, ptrIds, tabs, upd_app, mem_nil_app, entry_zero, entry_succ, entry_nil, top_app, maxStr, ByteArray.size, A.kill, O.kill, killS_app, killM_app, Nat.reduceAdd, Nat.reduceLeDiff, Nat.reduceEqDiff, Nat.reduceMul, Int.reduceToNat, reduceIte, wf_i64, Int.reduceLE, Int.reduceNeg, beq_self_eq_true, decide_true, decide_false, ybeq_some, ybeq_none, beqT, beqF, empty_toList, exs]
      | false =>
        have hne : a ≠ b := fun e => by subst e; simp at hn
        cases B1
        · refine id ?_
          repeat (first | refine W.seq ?_ | refine W.block ?_ | refine W.skip ?_ | refine W.exit ?_ | refine W.region tab_ok 0 (by decide) (exec_run (by simp only [exec, stepQ, wantA, yieldA, kind, qv, qv1, qv2, stO, adrId, dataC, replC, eqNil, binNil, shiftInt, A.down, A1.up, downs, toR, ev, putS, rowO, ofConst, cellsA, cellsC, asC, asCs, ld, ldR, bin, binInt, binStr, binBool, sliceOf, bndOf, repl, fillC, zeroC, chunks, ptrIds, tabs, upd_app, mem_nil_app, entry_zero, entry_succ, entry_nil, top_app, maxStr, ByteArray.size, A.kill, O.kill, killS_app, killM_app, Nat.reduceAdd, Nat.reduceLeDiff, Nat.reduceEqDiff, Nat.reduceMul, Int.reduceToNat, reduceIte, wf_i64, Int.reduceLE, Int.reduceNeg, beq_self_eq_true, decide_true, decide_false, ybeq_some, ybeq_none, beqT, beqF, empty_toList, exs]; rfl)) ?_)
          refine W.regionK tab_ok 0 (by decide) ?_
          refine runk_split 7 (by simp only [exec, stepQ, wantA, yieldA, kind, qv, qv1, qv2, stO, adrId, dataC, replC, eqNil, binNil, shiftInt, A.down, A1.up, downs, toR, ev, putS, rowO, ofConst, cellsA, cellsC, asC, asCs, ld, ldR, bin, binInt, binStr, binBool, sliceOf, bndOf, repl, fillC, zeroC, chunks, ptrIds, tabs, upd_app, mem_nil_app, entry_zero, entry_succ, entry_nil, top_app, maxStr, ByteArray.size, A.kill, O.kill, killS_app, killM_app, Nat.reduceAdd, Nat.reduceLeDiff, Nat.reduceEqDiff, Nat.reduceMul, Int.reduceToNat, reduceIte, wf_i64, Int.reduceLE, Int.reduceNeg, beq_self_eq_true, decide_true, decide_false, ybeq_some, ybeq_none, beqT, beqF, empty_toList, exs, cProg, hn]; rfl) ?_
          refine runk_call rfl rfl rfl rfl rfl (by simp) (cvs_cons cv_refl (cvs_cons cv_refl (cvs_cons cv_refl cvs_nil))) (hab _) ?_
          refine runk_exec (by simp only [exec, stepQ, wantA, yieldA, kind, qv, qv1, qv2, stO, adrId, dataC, replC, eqNil, binNil, shiftInt, A.down, A1.up, downs, toR, ev, putS, rowO, ofConst, cellsA, cellsC, asC, asCs, ld, ldR, bin, binInt, binStr, binBool, sliceOf, bndOf, repl, fillC, zeroC, chunks, ptrIds, tabs, upd_app, mem_nil_app, entry_zero, entry_succ, entry_nil, top_app, maxStr, ByteArray.size, A.kill, O.kill, killS_app, killM_app, Nat.reduceAdd, Nat.reduceLeDiff, Nat.reduceEqDiff, Nat.reduceMul, Int.reduceToNat, reduceIte, wf_i64, Int.reduceLE, Int.reduceNeg, beq_self_eq_true, decide_true, decide_false, ybeq_some, ybeq_none, beqT, beqF, empty_toList, exs]; rfl) ?_
          refine W.cond rfl (fun h => by simp at h) (fun _ => ?_)
          repeat (first | refine W.seq ?_ | refine W.block ?_ | refine W.skip ?_ | refine W.exit ?_ | refine W.region tab_ok 0 (by decide) (exec_run (by simp only [exec, stepQ, wantA, yieldA, kind, qv, qv1, qv2, stO, adrId, dataC, replC, eqNil, binNil, shiftInt, A.down, A1.up, downs, toR, ev, putS, rowO, ofConst, cellsA, cellsC, asC, asCs, ld, ldR, bin, binInt, binStr, binBool, sliceOf, bndOf, repl, fillC, zeroC, chunks, ptrIds, tabs, upd_app, mem_nil_app, entry_zero, entry_succ, entry_nil, top_app, maxStr, ByteArray.size, A.kill, O.kill, killS_app, killM_app, Nat.reduceAdd, Nat.reduceLeDiff, Nat.reduceEqDiff, Nat.reduceMul, Int.reduceToNat, reduceIte, wf_i64, Int.reduceLE, Int.reduceNeg, beq_self_eq_true, decide_true, decide_false, ybeq_some, ybeq_none, beqT, beqF, empty_toList, exs]; rfl)) ?_)
          refine W.regionK tab_ok 0 (by decide) ?_
          refine runk_split 5 (by simp only [exec, stepQ, wantA, yieldA, kind, qv, qv1, qv2, stO, adrId, dataC, replC, eqNil, binNil, shiftInt, A.down, A1.up, downs, toR, ev, putS, rowO, ofConst, cellsA, cellsC, asC, asCs, ld, ldR, bin, binInt, binStr, binBool, sliceOf, bndOf, repl, fillC, zeroC, chunks, ptrIds, tabs, upd_app, mem_nil_app, entry_zero, entry_succ, entry_nil, top_app, maxStr, ByteArray.size, A.kill, O.kill, killS_app, killM_app, Nat.reduceAdd, Nat.reduceLeDiff, Nat.reduceEqDiff, Nat.reduceMul, Int.reduceToNat, reduceIte, wf_i64, Int.reduceLE, Int.reduceNeg, beq_self_eq_true, decide_true, decide_false, ybeq_some, ybeq_none, beqT, beqF, empty_toList, exs, cProg]; rfl) ?_
          refine runk_call rfl rfl rfl rfl rfl (by simp) (cvs_cons cv_refl (cvs_cons cv_refl (cvs_cons cv_refl cvs_nil))) (hab _) ?_
          refine runk_exec (by simp only [exec, stepQ, wantA, yieldA, kind, qv, qv1, qv2, stO, adrId, dataC, replC, eqNil, binNil, shiftInt, A.down, A1.up, downs, toR, ev, putS, rowO, ofConst, cellsA, cellsC, asC, asCs, ld, ldR, bin, binInt, binStr, binBool, sliceOf, bndOf, repl, fillC, zeroC, chunks, ptrIds, tabs, upd_app, mem_nil_app, entry_zero, entry_succ, entry_nil, top_app, maxStr, ByteArray.size, A.kill, O.kill, killS_app, killM_app, Nat.reduceAdd, Nat.reduceLeDiff, Nat.reduceEqDiff, Nat.reduceMul, Int.reduceToNat, reduceIte, wf_i64, Int.reduceLE, Int.reduceNeg, beq_self_eq_true, decide_true, decide_false, ybeq_some, ybeq_none, beqT, beqF, empty_toList, exs]; rfl) ?_
          refine W.ret ⟨.inr rfl, by rfl, ?_⟩
          simp only [Try.f5, resA, resOne, toT, fin, exec, stepQ, wantA, yieldA, kind, qv, qv1, qv2, stO, adrId, dataC, replC, eqNil, binNil, shiftInt, A.down, A1.up, downs, toR, ev, putS, rowO, ofConst, cellsA, cellsC, asC, asCs, ld, ldR, bin, binInt, binStr, binBool, sliceOf, bndOf, repl, fillC, zeroC, chunks, ptrIds, tabs, upd_app, mem_nil_app, entry_zero, entry_succ, entry_nil, top_app, maxStr, ByteArray.size, A.kill, O.kill, killS_app, killM_app, Nat.reduceAdd, Nat.reduceLeDiff, Nat.reduceEqDiff, Nat.reduceMul, Int.reduceToNat, reduceIte, wf_i64, Int.reduceLE, Int.reduceNeg, beq_self_eq_true, decide_true, decide_false, ybeq_some, ybeq_none, beqT, beqF, empty_toList, exs]
        · obtain rfl : B2 = false := by
            cases B2 with
            | false => rfl
            | true => exact absurd (hA rfl rfl) hne
          repeat (first | refine W.seq ?_ | refine W.block ?_ | refine W.skip ?_ | refine W.exit ?_ | refine W.region tab_ok 0 (by decide) (exec_run (by simp only [exec, stepQ, wantA, yieldA, kind, qv, qv1, qv2, stO, adrId, dataC, replC, eqNil, binNil, shiftInt, A.down, A1.up, downs, toR, ev, putS, rowO, ofConst, cellsA, cellsC, asC, asCs, ld, ldR, bin, binInt, binStr, binBool, sliceOf, bndOf, repl, fillC, zeroC, chunks, ptrIds, tabs, upd_app, mem_nil_app, entry_zero, entry_succ, entry_nil, top_app, maxStr, ByteArray.size, A.kill, O.kill, killS_app, killM_app, Nat.reduceAdd, Nat.reduceLeDiff, Nat.reduceEqDiff, Nat.reduceMul, Int.reduceToNat, reduceIte, wf_i64, Int.reduceLE, Int.reduceNeg, beq_self_eq_true, decide_true, decide_false, ybeq_some, ybeq_none, beqT, beqF, empty_toList, exs]; rfl)) ?_)
          refine W.regionK tab_ok 0 (by decide) ?_
          refine runk_split 7 (by simp only [exec, stepQ, wantA, yieldA, kind, qv, qv1, qv2, stO, adrId, dataC, replC, eqNil, binNil, shiftInt, A.down, A1.up, downs, toR, ev, putS, rowO, ofConst, cellsA, cellsC, asC, asCs, ld, ldR, bin, binInt, binStr, binBool, sliceOf, bndOf, repl, fillC, zeroC, chunks, ptrIds, tabs, upd_app, mem_nil_app, entry_zero, entry_succ, entry_nil, top_app, maxStr, ByteArray.size, A.kill, O.kill, killS_app, killM_app, Nat.reduceAdd, Nat.reduceLeDiff, Nat.reduceEqDiff, Nat.reduceMul, Int.reduceToNat, reduceIte, wf_i64, Int.reduceLE, Int.reduceNeg, beq_self_eq_true, decide_true, decide_false, ybeq_some, ybeq_none, beqT, beqF, empty_toList, exs, cProg, hn]; rfl) ?_
          refine runk_call rfl rfl rfl rfl rfl (by simp) (cvs_cons cv_refl (cvs_cons cv_refl (cvs_cons cv_refl cvs_nil))) (hab _) ?_
          refine runk_split 5 (by simp only [exec, stepQ, wantA, yieldA, kind, qv, qv1, qv2, stO, adrId, dataC, replC, eqNil, binNil, shiftInt, A.down, A1.up, downs, toR, ev, putS, rowO, ofConst, cellsA, cellsC, asC, asCs, ld, ldR, bin, binInt, binStr, binBool, sliceOf, bndOf, repl, fillC, zeroC, chunks, ptrIds, tabs, upd_app, mem_nil_app, entry_zero, entry_succ, entry_nil, top_app, maxStr, ByteArray.size, A.kill, O.kill, killS_app, killM_app, Nat.reduceAdd, Nat.reduceLeDiff, Nat.reduceEqDiff, Nat.reduceMul, Int.reduceToNat, reduceIte, wf_i64, Int.reduceLE, Int.reduceNeg, beq_self_eq_true, decide_true, decide_false, ybeq_some, ybeq_none, beqT, beqF, empty_toList, exs, cProg]; rfl) ?_
          refine runk_call rfl rfl rfl rfl rfl (by simp) (cvs_cons cv_refl (cvs_cons cv_refl (cvs_cons cv_refl cvs_nil))) (hba _) ?_
          refine runk_exec (by simp only [exec, stepQ, wantA, yieldA, kind, qv, qv1, qv2, stO, adrId, dataC, replC, eqNil, binNil, shiftInt, A.down, A1.up, downs, toR, ev, putS, rowO, ofConst, cellsA, cellsC, asC, asCs, ld, ldR, bin, binInt, binStr, binBool, sliceOf, bndOf, repl, fillC, zeroC, chunks, ptrIds, tabs, upd_app, mem_nil_app, entry_zero, entry_succ, entry_nil, top_app, maxStr, ByteArray.size, A.kill, O.kill, killS_app, killM_app, Nat.reduceAdd, Nat.reduceLeDiff, Nat.reduceEqDiff, Nat.reduceMul, Int.reduceToNat, reduceIte, wf_i64, Int.reduceLE, Int.reduceNeg, beq_self_eq_true, decide_true, decide_false, ybeq_some, ybeq_none, beqT, beqF, empty_toList, exs]; rfl) ?_
          refine W.cond rfl (fun h => by simp at h) (fun _ => ?_)
          cases B3
          · refine id ?_
            repeat (first | refine W.seq ?_ | refine W.block ?_ | refine W.skip ?_ | refine W.exit ?_ | refine W.region tab_ok 0 (by decide) (exec_run (by simp only [exec, stepQ, wantA, yieldA, kind, qv, qv1, qv2, stO, adrId, dataC, replC, eqNil, binNil, shiftInt, A.down, A1.up, downs, toR, ev, putS, rowO, ofConst, cellsA, cellsC, asC, asCs, ld, ldR, bin, binInt, binStr, binBool, sliceOf, bndOf, repl, fillC, zeroC, chunks, ptrIds, tabs, upd_app, mem_nil_app, entry_zero, entry_succ, entry_nil, top_app, maxStr, ByteArray.size, A.kill, O.kill, killS_app, killM_app, Nat.reduceAdd, Nat.reduceLeDiff, Nat.reduceEqDiff, Nat.reduceMul, Int.reduceToNat, reduceIte, wf_i64, Int.reduceLE, Int.reduceNeg, beq_self_eq_true, decide_true, decide_false, ybeq_some, ybeq_none, beqT, beqF, empty_toList, exs]; rfl)) ?_)
            refine W.regionK tab_ok 0 (by decide) ?_
            refine runk_split 5 (by simp only [exec, stepQ, wantA, yieldA, kind, qv, qv1, qv2, stO, adrId, dataC, replC, eqNil, binNil, shiftInt, A.down, A1.up, downs, toR, ev, putS, rowO, ofConst, cellsA, cellsC, asC, asCs, ld, ldR, bin, binInt, binStr, binBool, sliceOf, bndOf, repl, fillC, zeroC, chunks, ptrIds, tabs, upd_app, mem_nil_app, entry_zero, entry_succ, entry_nil, top_app, maxStr, ByteArray.size, A.kill, O.kill, killS_app, killM_app, Nat.reduceAdd, Nat.reduceLeDiff, Nat.reduceEqDiff, Nat.reduceMul, Int.reduceToNat, reduceIte, wf_i64, Int.reduceLE, Int.reduceNeg, beq_self_eq_true, decide_true, decide_false, ybeq_some, ybeq_none, beqT, beqF, empty_toList, exs, cProg]; rfl) ?_
            refine runk_call rfl rfl rfl rfl rfl (by simp) (cvs_cons cv_refl (cvs_cons cv_refl (cvs_cons cv_refl cvs_nil))) (hab _) ?_
            refine runk_split 5 (by simp only [exec, stepQ, wantA, yieldA, kind, qv, qv1, qv2, stO, adrId, dataC, replC, eqNil, binNil, shiftInt, A.down, A1.up, downs, toR, ev, putS, rowO, ofConst, cellsA, cellsC, asC, asCs, ld, ldR, bin, binInt, binStr, binBool, sliceOf, bndOf, repl, fillC, zeroC, chunks, ptrIds, tabs, upd_app, mem_nil_app, entry_zero, entry_succ, entry_nil, top_app, maxStr, ByteArray.size, A.kill, O.kill, killS_app, killM_app, Nat.reduceAdd, Nat.reduceLeDiff, Nat.reduceEqDiff, Nat.reduceMul, Int.reduceToNat, reduceIte, wf_i64, Int.reduceLE, Int.reduceNeg, beq_self_eq_true, decide_true, decide_false, ybeq_some, ybeq_none, beqT, beqF, empty_toList, exs, cProg]; rfl) ?_
            refine runk_call rfl rfl rfl rfl rfl (by simp) (cvs_cons cv_refl (cvs_cons cv_refl (cvs_cons cv_refl cvs_nil))) (hbc _) ?_
            refine runk_exec (by simp only [exec, stepQ, wantA, yieldA, kind, qv, qv1, qv2, stO, adrId, dataC, replC, eqNil, binNil, shiftInt, A.down, A1.up, downs, toR, ev, putS, rowO, ofConst, cellsA, cellsC, asC, asCs, ld, ldR, bin, binInt, binStr, binBool, sliceOf, bndOf, repl, fillC, zeroC, chunks, ptrIds, tabs, upd_app, mem_nil_app, entry_zero, entry_succ, entry_nil, top_app, maxStr, ByteArray.size, A.kill, O.kill, killS_app, killM_app, Nat.reduceAdd, Nat.reduceLeDiff, Nat.reduceEqDiff, Nat.reduceMul, Int.reduceToNat, reduceIte, wf_i64, Int.reduceLE, Int.reduceNeg, beq_self_eq_true, decide_true, decide_false, ybeq_some, ybeq_none, beqT, beqF, empty_toList, exs]; rfl) ?_
            refine W.ret ⟨.inr rfl, by rfl, ?_⟩
            simp only [Try.f5, resA, resOne, toT, fin, exec, stepQ, wantA, yieldA, kind, qv, qv1, qv2, stO, adrId, dataC, replC, eqNil, binNil, shiftInt, A.down, A1.up, downs, toR, ev, putS, rowO, ofConst, cellsA, cellsC, asC, asCs, ld, ldR, bin, binInt, binStr, binBool, sliceOf, bndOf, repl, fillC, zeroC, chunks, ptrIds, tabs, upd_app, mem_nil_app, entry_zero, entry_succ, entry_nil, top_app, maxStr, ByteArray.size, A.kill, O.kill, killS_app, killM_app, Nat.reduceAdd, Nat.reduceLeDiff, Nat.reduceEqDiff, Nat.reduceMul, Int.reduceToNat, reduceIte, wf_i64, Int.reduceLE, Int.reduceNeg, beq_self_eq_true, decide_true, decide_false, ybeq_some, ybeq_none, beqT, beqF, empty_toList, exs]
          · obtain rfl : B4 = true := hT rfl rfl
            repeat (first | refine W.seq ?_ | refine W.block ?_ | refine W.skip ?_ | refine W.exit ?_ | refine W.region tab_ok 0 (by decide) (exec_run (by simp only [exec, stepQ, wantA, yieldA, kind, qv, qv1, qv2, stO, adrId, dataC, replC, eqNil, binNil, shiftInt, A.down, A1.up, downs, toR, ev, putS, rowO, ofConst, cellsA, cellsC, asC, asCs, ld, ldR, bin, binInt, binStr, binBool, sliceOf, bndOf, repl, fillC, zeroC, chunks, ptrIds, tabs, upd_app, mem_nil_app, entry_zero, entry_succ, entry_nil, top_app, maxStr, ByteArray.size, A.kill, O.kill, killS_app, killM_app, Nat.reduceAdd, Nat.reduceLeDiff, Nat.reduceEqDiff, Nat.reduceMul, Int.reduceToNat, reduceIte, wf_i64, Int.reduceLE, Int.reduceNeg, beq_self_eq_true, decide_true, decide_false, ybeq_some, ybeq_none, beqT, beqF, empty_toList, exs]; rfl)) ?_)
            refine W.regionK tab_ok 0 (by decide) ?_
            refine runk_split 5 (by simp only [exec, stepQ, wantA, yieldA, kind, qv, qv1, qv2, stO, adrId, dataC, replC, eqNil, binNil, shiftInt, A.down, A1.up, downs, toR, ev, putS, rowO, ofConst, cellsA, cellsC, asC, asCs, ld, ldR, bin, binInt, binStr, binBool, sliceOf, bndOf, repl, fillC, zeroC, chunks, ptrIds, tabs, upd_app, mem_nil_app, entry_zero, entry_succ, entry_nil, top_app, maxStr, ByteArray.size, A.kill, O.kill, killS_app, killM_app, Nat.reduceAdd, Nat.reduceLeDiff, Nat.reduceEqDiff, Nat.reduceMul, Int.reduceToNat, reduceIte, wf_i64, Int.reduceLE, Int.reduceNeg, beq_self_eq_true, decide_true, decide_false, ybeq_some, ybeq_none, beqT, beqF, empty_toList, exs, cProg]; rfl) ?_
            refine runk_call rfl rfl rfl rfl rfl (by simp) (cvs_cons cv_refl (cvs_cons cv_refl (cvs_cons cv_refl cvs_nil))) (hab _) ?_
            refine runk_split 5 (by simp only [exec, stepQ, wantA, yieldA, kind, qv, qv1, qv2, stO, adrId, dataC, replC, eqNil, binNil, shiftInt, A.down, A1.up, downs, toR, ev, putS, rowO, ofConst, cellsA, cellsC, asC, asCs, ld, ldR, bin, binInt, binStr, binBool, sliceOf, bndOf, repl, fillC, zeroC, chunks, ptrIds, tabs, upd_app, mem_nil_app, entry_zero, entry_succ, entry_nil, top_app, maxStr, ByteArray.size, A.kill, O.kill, killS_app, killM_app, Nat.reduceAdd, Nat.reduceLeDiff, Nat.reduceEqDiff, Nat.reduceMul, Int.reduceToNat, reduceIte, wf_i64, Int.reduceLE, Int.reduceNeg, beq_self_eq_true, decide_true, decide_false, ybeq_some, ybeq_none, beqT, beqF, empty_toList, exs, cProg]; rfl) ?_
            refine runk_call rfl rfl rfl rfl rfl (by simp) (cvs_cons cv_refl (cvs_cons cv_refl (cvs_cons cv_refl cvs_nil))) (hbc _) ?_
            refine runk_split 6 (by simp only [exec, stepQ, wantA, yieldA, kind, qv, qv1, qv2, stO, adrId, dataC, replC, eqNil, binNil, shiftInt, A.down, A1.up, downs, toR, ev, putS, rowO, ofConst, cellsA, cellsC, asC, asCs, ld, ldR, bin, binInt, binStr, binBool, sliceOf, bndOf, repl, fillC, zeroC, chunks, ptrIds, tabs, upd_app, mem_nil_app, entry_zero, entry_succ, entry_nil, top_app, maxStr, ByteArray.size, A.kill, O.kill, killS_app, killM_app, Nat.reduceAdd, Nat.reduceLeDiff, Nat.reduceEqDiff, Nat.reduceMul, Int.reduceToNat, reduceIte, wf_i64, Int.reduceLE, Int.reduceNeg, beq_self_eq_true, decide_true, decide_false, ybeq_some, ybeq_none, beqT, beqF, empty_toList, exs, cProg]; rfl) ?_
            refine runk_call rfl rfl rfl rfl rfl (by simp) (cvs_cons cv_refl (cvs_cons cv_refl (cvs_cons cv_refl cvs_nil))) (hac _) ?_
            refine runk_exec (by simp only [exec, stepQ, wantA, yieldA, kind, qv, qv1, qv2, stO, adrId, dataC, replC, eqNil, binNil, shiftInt, A.down, A1.up, downs, toR, ev, putS, rowO, ofConst, cellsA, cellsC, asC, asCs, ld, ldR, bin, binInt, binStr, binBool, sliceOf, bndOf, repl, fillC, zeroC, chunks, ptrIds, tabs, upd_app, mem_nil_app, entry_zero, entry_succ, entry_nil, top_app, maxStr, ByteArray.size, A.kill, O.kill, killS_app, killM_app, Nat.reduceAdd, Nat.reduceLeDiff, Nat.reduceEqDiff, Nat.reduceMul, Int.reduceToNat, reduceIte, wf_i64, Int.reduceLE, Int.reduceNeg, beq_self_eq_true, decide_true, decide_false, ybeq_some, ybeq_none, beqT, beqF, empty_toList, exs]; rfl) ?_
            refine W.ret ⟨.inr rfl, by rfl, ?_⟩
            simp only [Try.f5, resA, resOne, toT, fin, exec, stepQ, wantA, yieldA, kind, qv, qv1, qv2, stO, adrId, dataC, replC, eqNil, binNil, shiftInt, A.down, A1.up, downs, toR, ev, putS, rowO, ofConst, cellsA, cellsC, asC, asCs, ld, ldR, bin, binInt, binStr, binBool, sliceOf, bndOf, repl, fillC, zeroC, chunks, ptrIds, tabs, upd_app, mem_nil_app, entry_zero, entry_succ, entry_nil, top_app, maxStr, ByteArray.size, A.kill, O.kill, killS_app, killM_app, Nat.reduceAdd, Nat.reduceLeDiff, Nat.reduceEqDiff, Nat.reduceMul, Int.reduceToNat, reduceIte, wf_i64, Int.reduceLE, Int.reduceNeg, beq_self_eq_true, decide_true, decide_false, ybeq_some, ybeq_none, beqT, beqF, empty_toList, exs]
end V
end Go.Proofs.Ytjciafpihdbedaa
end
section
set_option linter.unusedVariables false
set_option linter.unusedSimpArgs false
namespace Go.Proofs.Ytjciafpihdbedaa
open Go.ChangeShapes Go.WideShapes Go.ChangeAt Go.RowKit
open Go.ChangeMaps (open_string shut_string)
open V
theorem classesOrder_met (os : Os) : laidMet Try.prog Rows.classesOrderUptoRow.laid ((World.holding Try.prog os ⟨#[], #[], []⟩).forCall (fun _ _ => 0) ⟨#[], #[.agg #[.slice none 0 0, .slice none 0 0], .string ⟨#[]⟩, .string ⟨#[]⟩, .string ⟨#[]⟩], []⟩).memory :=
  laidMet_of_run' 8 (by kernel_rfl) (by kernel_rfl)
theorem classesOrder_reads (os : Os) {H : Type} (enc : TypeId × Value → H) : ∃ places, DataW.whole enc Try.prog ((World.holding Try.prog os ⟨#[], #[], []⟩).forCall (fun _ _ => 0) ⟨#[], #[.agg #[.slice none 0 0, .slice none 0 0], .string ⟨#[]⟩, .string ⟨#[]⟩, .string ⟨#[]⟩], []⟩).memory Try.f5.params.toList Rows.classesOrderSpec.vars false (#[.agg #[.slice none 0 0, .slice none 0 0], .string ⟨#[]⟩, .string ⟨#[]⟩, .string ⟨#[]⟩] : Array Value).toList 8 = some ([.agg [.nil, .nil], .lit (.string []), .lit (.string []), .lit (.string [])], [], places) :=
  ⟨[], by kernel_rfl⟩
set_option maxRecDepth 100000 in
set_option maxHeartbeats 2000000 in
theorem classesOrder_lifted (os : Os) (started : os.Started) (H : Type) (enc : TypeId × Value → H) (F : Stop.Interp) :
    ReturnsInHanded {} Try.checked os 5 .any ((Rows.OpenSpec.upto Rows.classesOrderSpec).preRow enc Try.prog Try.f5 Rows.classesOrderUptoRow.domain false Rows.classesOrderUptoRow.laid) (((Rows.OpenSpec.upto Rows.classesOrderSpec).at F).post enc Try.prog Try.f5 false true false false) := by
  obtain ⟨places, hx⟩ := classesOrder_reads os enc
  refine returnsInHanded_of_row (C := Try.checked) (s := Rows.OpenSpec.upto Rows.classesOrderSpec) own started (by kernel_rfl) Try.func5
    (witness_row_at (enc := enc) (C := Try.checked) false (World.holding Try.prog os ⟨#[], #[], []⟩) #[.agg #[.slice none 0 0, .slice none 0 0], .string ⟨#[]⟩, .string ⟨#[]⟩, .string ⟨#[]⟩] rfl (by kernel_rfl) (by kernel_rfl) (by kernel_rfl)
      (OpenSpec.preRow_of_cond 8 hx (by kernel_rfl) (fun k hk => by cases hk; rfl) (by kernel_rfl) (classesOrder_met os))) ?_
  intro W base args ds gs before hval0 hW _ hcond hsz0 _ hsh _
  have hbulk : Rows.uptoBulkAll (ds ++ gs) ≤ 1048576 := of_decide_eq_true (hcond _ rfl)
  clear hcond
  have hval : ∀ (j : Nat) t v, Try.f5.params[j]? = some t → args[j]? = some v → Value.okWide Try.prog W .any base t v := hval0
  have hW' := hW
  obtain ⟨p, q, hA0, hV, rfl, hfz, hnd⟩ := hW
  have hA : DataW.TrodAll enc Try.prog W 0 (fun _ => true) true Try.f5.params.toList args.toList ds p := hA0
  have hsz : ∀ n ∈ DataW.weightsEach Try.prog (Try.f5.params.toList ++ Rows.classesOrderSpec.plain.varTypes Try.prog) (ds ++ gs), n ≤ reachBytes := fun n hn => of_decide_eq_true (List.all_eq_true.1 hsz0 n hn)
  rw [Try.params5] at hA hval hsz
  clear hsz0
  obtain ⟨v0, vs0, d0, ds0, p0, q0, hargs, rfl, rfl, h0, r0⟩ := trodAll_cons hA
  obtain ⟨v1, vs1, d1, ds1, p1, q1, rfl, rfl, rfl, h1, r1⟩ := trodAll_cons r0
  obtain ⟨v2, vs2, d2, ds2, p2, q2, rfl, rfl, rfl, h2, r2⟩ := trodAll_cons r1
  obtain ⟨v3, vs3, d3, ds3, p3, q3, rfl, rfl, rfl, h3, r3⟩ := trodAll_cons r2
  obtain ⟨rfl, rfl, rfl⟩ := trodAll_nil r3
  obtain rfl : args = #[v0, v1, v2, v3] := by cases args; simp_all
  obtain ⟨rfl, rfl⟩ := trodVars_none hV
  clear hA0 hval0
  simp only [List.append_nil] at hW'
  have k0 := h0
  have lt0 : ∀ x ∈ p0, x.block < W.heap.size := by obtain ⟨m, hm⟩ := k0; exact DataW.trod_lt m _ _ _ hm
  have k1 := h1
  have lt1 : ∀ x ∈ p1, x.block < W.heap.size := by obtain ⟨m, hm⟩ := k1; exact DataW.trod_lt m _ _ _ hm
  have k2 := h2
  have lt2 : ∀ x ∈ p2, x.block < W.heap.size := by obtain ⟨m, hm⟩ := k2; exact DataW.trod_lt m _ _ _ hm
  have k3 := h3
  have lt3 : ∀ x ∈ p3, x.block < W.heap.size := by obtain ⟨m, hm⟩ := k3; exact DataW.trod_lt m _ _ _ hm
  have fit0 : Fits Try.prog 25 d0 := fun n hn => hsz n (DataW.weights_mem_each (j := 0) rfl rfl n hn)
  have hG : GlobOk W := cell_of_shapedOpen_int (zero := #[.int .i64 0]) (t := 3) hsh (of_decide_eq_true (by kernel_rfl)) (by kernel_rfl) rfl (by kernel_rfl) (by kernel_rfl) Try.underlying3
  obtain ⟨cs0, rfl, -⟩ := okWide_struct Try.underlying25 (hval 0 25 v0 rfl rfl)
  obtain ⟨e0, g0, w0⟩ := read_program fit0 h0 ⟨cs0, rfl⟩
  obtain ⟨n0, hn0⟩ := h0
  obtain ⟨hlen, hS⟩ := small_of (cs := cs0.toList) (N := 1048576) (x := (d0, p0)) (by simpa using w0) hn0 (Nat.le_trans (bulk_mem (by simp)) hbulk)
  have fit1 : Fits Try.prog 9 d1 := fun n hn => hsz n (DataW.weights_mem_each (j := 1) rfl rfl n hn)
  obtain ⟨m1, h11⟩ := h1
  obtain ⟨s1, es1, gs1, -⟩ := DataW.trod_string Try.underlying9 h11
  have ls1 : s1.size ≤ maxS := fit_string gs1 fit1
  obtain ⟨u1, rfl⟩ := okWide_string Try.underlying9 (hval 1 9 v1 rfl rfl)
  obtain rfl : u1 = s1 := by simpa [Value.cells] using es1
  have fit2 : Fits Try.prog 9 d2 := fun n hn => hsz n (DataW.weights_mem_each (j := 2) rfl rfl n hn)
  obtain ⟨m2, h22⟩ := h2
  obtain ⟨s2, es2, gs2, -⟩ := DataW.trod_string Try.underlying9 h22
  have ls2 : s2.size ≤ maxS := fit_string gs2 fit2
  obtain ⟨u2, rfl⟩ := okWide_string Try.underlying9 (hval 2 9 v2 rfl rfl)
  obtain rfl : u2 = s2 := by simpa [Value.cells] using es2
  have fit3 : Fits Try.prog 9 d3 := fun n hn => hsz n (DataW.weights_mem_each (j := 3) rfl rfl n hn)
  obtain ⟨m3, h33⟩ := h3
  obtain ⟨s3, es3, gs3, -⟩ := DataW.trod_string Try.underlying9 h33
  have ls3 : s3.size ≤ maxS := fit_string gs3 fit3
  obtain ⟨u3, rfl⟩ := okWide_string Try.underlying9 (hval 3 9 v3 rfl rfl)
  obtain rfl : u3 = s3 := by simpa [Value.cells] using es3
  refine (cok_true (vals := [_, _, _, _]) (lawOrder_ok g0 u1 u2 u3 hS hlen _) hG (fun B => ⟨rv_prog w0, rv_str ls1, rv_str ls2, rv_str ls3, trivial⟩)).mono fun e W' ⟨he, bel⟩ => ?_
  subst he
  exact ⟨_, rfl, _, _, _, [], _, [], hW', trodAll_mk1 (shut_bool Try.underlying4 _), trodAll_cons_mk (Below.trod laidOut (by kernel_rfl) (of_decide_eq_true (by kernel_rfl)) k0 bel lt0) (trodAll_cons_mk (Below.trod laidOut (by kernel_rfl) (of_decide_eq_true (by kernel_rfl)) k1 bel lt1) (trodAll_cons_mk (Below.trod laidOut (by kernel_rfl) (of_decide_eq_true (by kernel_rfl)) k2 bel lt2) (trodAll_cons_mk (Below.trod laidOut (by kernel_rfl) (of_decide_eq_true (by kernel_rfl)) k3 bel lt3) trodAll_mk0))), rfl, bel.frame _, fun h => by cases h⟩
theorem classesOrder_holds : Rows.ClassesOrderUptoSaid :=
  OpenClaim.holds_of_cond 5 Try.f5 rfl rfl rfl rfl rfl rfl rfl ⟨rfl, rfl, rfl, rfl, rfl⟩ rfl rfl rfl rfl rfl (by kernel_rfl) Try.func5 (by kernel_rfl)
    (of_decide_eq_true (by kernel_rfl)) (by unfold Func.isWrapper; first | (rw [if_pos (by decide +kernel)]; kernel_rfl) | (rw [if_neg (by decide +kernel)]; exact ⟨rfl, rfl⟩))
    (fun os started H enc _ F => by rw [OpenClaim.pre_eq_preRow]; exact classesOrder_lifted os started H enc F)
end Go.Proofs.Ytjciafpihdbedaa
end
