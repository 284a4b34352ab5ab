/- Joined by my own program, in build order: Chk. -/
import Derived.Test.YtnmfbaahabcocaaDoorY10
set_option linter.unusedVariables false
set_option linter.unusedSimpArgs false
section
namespace Go.Proofs.YtnmfbaahabcocaaDoor
inductive RchA (E : List (Nat × Nat)) (s d : Nat) : Nat → Prop
  | here : s ≠ d → RchA E s d s
  | step {i j : Nat} : RchA E s d i → (i, j) ∈ E → j ≠ d → RchA E s d j
theorem RchA.rch {E : List (Nat × Nat)} {s d i : Nat} (h : RchA E s d i) : Rch E s i := by
  induction h with
  | here => exact .here
  | step _ he _ ih => exact ih.step he
def Dom (E : List (Nat × Nat)) (s d i : Nat) : Prop := Rch E s i ∧ ¬ RchA E s d i
structure Post (E : List (Nat × Nat)) (s : Nat) (nodes : List Nat) (num : Nat → Nat) : Prop where
  nodup : nodes.Nodup
  reach : ∀ i, i ∈ nodes ↔ Rch E s i
  place : ∀ k i, nodes[k]? = some i → num i = k
  last : nodes[nodes.length - 1]? = some s
  fwd : ∀ i, i ∈ nodes → i ≠ s → ∃ p, (p, i) ∈ E ∧ p ∈ nodes ∧ num i < num p
section
variable {E : List (Nat × Nat)} {s : Nat} {nodes : List Nat} {num : Nat → Nat}
theorem Post.at (h : Post E s nodes num) {i : Nat} (hi : i ∈ nodes) : nodes[num i]? = some i := by
  obtain ⟨k, hk⟩ := List.mem_iff_getElem?.1 hi
  rw [h.place k i hk]; exact hk
theorem Post.inj (h : Post E s nodes num) {i j : Nat} (hi : i ∈ nodes) (hj : j ∈ nodes) (e : num i = num j) : i = j := by
  have h1 := h.at hi
  rw [e, h.at hj] at h1
  exact (Option.some.inj h1).symm
theorem Post.lt (h : Post E s nodes num) {i : Nat} (hi : i ∈ nodes) : num i < nodes.length := (List.getElem?_eq_some_iff.1 (h.at hi)).1
theorem Post.root (h : Post E s nodes num) : s ∈ nodes := List.mem_of_getElem? h.last
theorem Post.top (h : Post E s nodes num) : num s = nodes.length - 1 := h.place _ _ h.last
theorem Post.below (h : Post E s nodes num) {i : Nat} (hi : i ∈ nodes) (hs : i ≠ s) : num i < num s := by
  have h1 := h.lt hi
  have h2 := h.top
  rcases Nat.lt_or_ge (num i) (num s) with h3 | h3
  · exact h3
  · exact absurd (h.inj hi h.root (by omega)) hs
end
inductive Anc (u : Nat → Option Nat) (s : Nat) : Nat → Nat → Prop
  | refl (v : Nat) : Anc u s v v
  | up {v p a : Nat} : v ≠ s → u v = some p → Anc u s p a → Anc u s v a
theorem Anc.trans {u : Nat → Option Nat} {s v a b : Nat} (h : Anc u s v a) (k : Anc u s a b) : Anc u s v b := by
  induction h with
  | refl => exact k
  | up h1 h2 _ ih => exact .up h1 h2 (ih k)
theorem Anc.root {u : Nat → Option Nat} {s a : Nat} (h : Anc u s s a) : a = s := by
  cases h with
  | refl => rfl
  | up h1 => exact absurd rfl h1
theorem Anc.next {u : Nat → Option Nat} {s v a : Nat} (h : Anc u s v a) (hne : v ≠ a) : v ≠ s ∧ ∃ p, u v = some p ∧ Anc u s p a := by
  cases h with
  | refl => exact absurd rfl hne
  | up h1 h2 h3 => exact ⟨h1, _, h2, h3⟩
inductive PLow (E : List (Nat × Nat)) (num : Nat → Nat) (a : Nat) : Nat → Prop
  | one {v : Nat} : (a, v) ∈ E → num v < num a → PLow E num a v
  | step {v w : Nat} : PLow E num a v → (v, w) ∈ E → num w < num a → PLow E num a w
structure St (E : List (Nat × Nat)) (s : Nat) (nodes : List Nat) (num : Nat → Nat) (u : Nat → Option Nat) : Prop where
  root : u s = some s
  tree : ∀ v p, v ≠ s → u v = some p → v ∈ nodes ∧ p ∈ nodes ∧ num v < num p ∧ (u p).isSome = true
  low : ∀ v p, v ≠ s → u v = some p → PLow E num p v
  safe : ∀ v d, (u v).isSome = true → Dom E s d v → Anc u s v d
  lca : ∀ i x, i ≠ s → u i = some x → ∀ d, (∀ p, (p, i) ∈ E → (u p).isSome = true → Anc u s p d) → num x ≤ num d
section
variable {E : List (Nat × Nat)} {s : Nat} {nodes : List Nat} {num : Nat → Nat} {u : Nat → Option Nat}
theorem St.mem (h : St E s nodes num u) (P : Post E s nodes num) {v : Nat} (hv : (u v).isSome = true) : v ∈ nodes := by
  by_cases e : v = s
  · rw [e]; exact P.root
  · obtain ⟨p, hp⟩ := Option.isSome_iff_exists.1 hv
    exact (h.tree v p e hp).1
theorem Anc.num_le (h : St E s nodes num u) {v a : Nat} (ha : Anc u s v a) : num v ≤ num a ∧ ((u v).isSome = true → (u a).isSome = true) := by
  induction ha with
  | refl => exact ⟨Nat.le_refl _, id⟩
  | up h1 h2 _ ih =>
    obtain ⟨_, _, h3, h4⟩ := h.tree _ _ h1 h2
    exact ⟨by omega, fun _ => ih.2 h4⟩
theorem Anc.comparable (h : St E s nodes num u) {v a b : Nat} (ha : Anc u s v a) : Anc u s v b → num a ≤ num b → Anc u s a b ∨ (num a = num b ∧ Anc u s b a) := by
  induction ha with
  | refl => intro hb _; exact .inl hb
  | up h1 h2 h3 ih =>
    intro hb hn
    cases hb with
    | refl =>
      have := (Anc.num_le h h3).1
      have := (h.tree _ _ h1 h2).2.2.1
      omega
    | up _ k2 k3 =>
      rw [h2] at k2
      cases k2
      exact ih k3 hn
theorem Anc.above (h : St E s nodes num u) (P : Post E s nodes num) {v a b : Nat} (hv : (u v).isSome = true) (ha : Anc u s v a) (hb : Anc u s v b) (hn : num a ≤ num b) : Anc u s a b := by
  rcases Anc.comparable h ha hb hn with h1 | ⟨h1, h2⟩
  · exact h1
  · have ea := h.mem P ((Anc.num_le h ha).2 hv)
    have eb := h.mem P ((Anc.num_le h hb).2 hv)
    rw [P.inj ea eb h1]; exact .refl _
theorem Dom.pred {d i p : Nat} (h : Dom E s d i) (hne : d ≠ i) (hp : Rch E s p) (he : (p, i) ∈ E) : Dom E s d p :=
  ⟨hp, fun ha => h.2 (ha.step he (fun e => hne e.symm))⟩
theorem PLow.avoid {a v d : Nat} (h : PLow E num a v) (hd : num a < num d) (ha : RchA E s d a) : RchA E s d v := by
  induction h with
  | one he hn => exact ha.step he (by rintro rfl; omega)
  | step _ he hn ih => exact ih.step he (by rintro rfl; omega)
theorem Anc.plow (h : St E s nodes num u) {v a : Nat} (ha : Anc u s v a) : v = a ∨ PLow E num a v := by
  induction ha with
  | refl => exact .inl rfl
  | up h1 h2 h3 ih =>
    right
    have hl := h.low _ _ h1 h2
    have hn := (Anc.num_le h h3).1
    rcases ih with rfl | ih
    · exact hl
    · -- a -> p low, p -> v low
      clear h3
      rename_i v p a
      have : ∀ w, PLow E num p w → PLow E num a w := by
        intro w hw
        induction hw with
        | one he hlt => exact ih.step he (by omega)
        | step _ he hlt ih2 => exact ih2.step he (by omega)
      exact this _ hl
def setU (u : Nat → Option Nat) (i c : Nat) : Nat → Option Nat := fun j => if j = i then some c else u j
structure Best (E : List (Nat × Nat)) (s : Nat) (u : Nat → Option Nat) (i c : Nat) : Prop where
  set : (u c).isSome = true
  over : ∀ p, (p, i) ∈ E → (u p).isSome = true → Anc u s p c
  least : ∀ d, (∀ p, (p, i) ∈ E → (u p).isSome = true → Anc u s p d) → Anc u s c d
theorem anc_high (h : St E s nodes num u) {i c v a : Nat} (hv : num i < num v) (ha : Anc u s v a) : Anc (setU u i c) s v a := by
  induction ha with
  | refl => exact .refl _
  | up h1 h2 h3 ih =>
    have hn := (h.tree _ _ h1 h2).2.2.1
    refine .up h1 ?_ (ih (by omega))
    unfold setU
    rw [if_neg (by rintro rfl; omega)]; exact h2
theorem anc_back (h : St E s nodes num u) {i c v a : Nat} (hi : i ≠ s) (hic : num i < num c) (hmove : ∀ x, u i = some x → Anc u s x c) (hcs : Anc (setU u i c) s c a → Anc u s c a) (ha : Anc (setU u i c) s v a) (hv : v = i → (u i).isSome = true) (hvs : (u v).isSome = true) : Anc u s v a := by
  induction ha with
  | refl => exact .refl _
  | up h1 h2 h3 ih =>
    rename_i v p a
    by_cases e : v = i
    · subst e
      obtain ⟨x, hx⟩ := Option.isSome_iff_exists.1 (hv rfl)
      have e2 : p = c := by unfold setU at h2; simp at h2; exact h2.symm
      subst e2
      exact .up h1 hx ((hmove x hx).trans (hcs h3))
    · have e2 : u v = some p := by unfold setU at h2; rwa [if_neg e] at h2
      obtain ⟨_, _, _, h4⟩ := h.tree _ _ h1 e2
      exact .up h1 e2 (ih hcs (fun e3 => by rw [← e3]; exact h4) h4)
theorem anc_high_back (h : St E s nodes num u) {i c v a : Nat} (hv : num i < num v) (hvs : (u v).isSome = true) (ha : Anc (setU u i c) s v a) : Anc u s v a := by
  induction ha with
  | refl => exact .refl _
  | up h1 h2 h3 ih =>
    rename_i v p a
    have e2 : u v = some p := by unfold setU at h2; rwa [if_neg (by rintro rfl; omega)] at h2
    obtain ⟨_, _, h3', h4⟩ := h.tree _ _ h1 e2
    exact .up h1 e2 (ih (by omega) h4)
end
structure Pass (E : List (Nat × Nat)) (s : Nat) (nodes : List Nat) (num : Nat → Nat) (u0 u : Nat → Option Nat) (m : Int) (changed : Bool) : Prop where
  st : St E s nodes num u
  old : ∀ v, v ∈ nodes → (num v : Int) ≤ m → u v = u0 v
  set : ∀ v, v ∈ nodes → m < (num v : Int) → (u v).isSome = true
  fwd : ∀ v, v ∈ nodes → v ≠ s → m < (num v : Int) → ∀ r, (r, v) ∈ E → r ∈ nodes → num v < num r → ∃ x, u v = some x ∧ Anc u s r x
  kept : ∀ v, v ∈ nodes → m < (num v : Int) → ∀ y a, Anc u0 s v y → Anc u s v a → num y ≤ num a → Anc u s y a
  same : changed = false → u = u0
  fix : changed = false → ∀ v, v ∈ nodes → v ≠ s → m < (num v : Int) → ∃ c, u v = some c ∧ ∀ p, (p, v) ∈ E → (u p).isSome = true → Anc u s p c
structure Begin (E : List (Nat × Nat)) (s : Nat) (nodes : List Nat) (num : Nat → Nat) (u0 : Nat → Option Nat) : Prop where
  st : St E s nodes num u0
  fwd : ∀ v x, v ≠ s → u0 v = some x → ∀ r, (r, v) ∈ E → r ∈ nodes → num v < num r → Anc u0 s r x
section
variable {E : List (Nat × Nat)} {s : Nat} {nodes : List Nat} {num : Nat → Nat} {u0 u : Nat → Option Nat}
theorem Pass.start (P : Post E s nodes num) (B : Begin E s nodes num u0) : Pass E s nodes num u0 u0 ((nodes.length : Int) - 2) false := by
  have hl := P.lt P.root
  have ht := P.top
  have only : ∀ v, v ∈ nodes → ((nodes.length : Int) - 2) < (num v : Int) → v = s := by
    intro v hv h
    by_cases e : v = s
    · exact e
    · have := P.below hv e
      omega
  refine ⟨B.st, fun _ _ _ => rfl, fun v hv h => ?_, fun v hv hs h => absurd (only v hv h) hs, fun v hv h y a hy ha _ => ?_, fun _ => rfl, fun _ v hv hs h => absurd (only v hv h) hs⟩
  · rw [only v hv h, B.st.root]; rfl
  · have e := only v hv h
    subst e
    rw [hy.root]; exact ha
def rootU (s : Nat) : Nat → Option Nat := fun j => if j = s then some s else none
theorem begin_root (P : Post E s nodes num) : Begin E s nodes num (rootU s) := by
  have none : ∀ v p, v ≠ s → rootU s v = some p → False := fun v p h e => by unfold rootU at e; rw [if_neg h] at e; cases e
  refine ⟨⟨by simp [rootU], fun v p h e => (none v p h e).elim, fun v p h e => (none v p h e).elim, fun v d hv hd => ?_, fun i x h e => (none i x h e).elim⟩, fun v x h e => (none v x h e).elim⟩
  by_cases e : v = s
  · subst e
    by_cases e2 : v = d
    · rw [e2]; exact .refl _
    · exact absurd (RchA.here e2) hd.2
  · unfold rootU at hv; rw [if_neg e] at hv; cases hv
theorem Pass.pred (P : Post E s nodes num) {m : Int} {ch : Bool} (H : Pass E s nodes num u0 u m ch) {i : Nat} (hi : i ∈ nodes) (his : i ≠ s) (him : (num i : Int) = m) : ∃ r, (r, i) ∈ E ∧ r ∈ nodes ∧ num i < num r ∧ (u r).isSome = true := by
  obtain ⟨r, h1, h2, h3⟩ := P.fwd i hi his
  exact ⟨r, h1, h2, h3, H.set r h2 (by omega)⟩
theorem Pass.move (P : Post E s nodes num) (B : Begin E s nodes num u0) {m : Int} {ch : Bool} (H : Pass E s nodes num u0 u m ch) {i c : Nat} (hi : i ∈ nodes) (his : i ≠ s) (him : (num i : Int) = m) (hb : Best E s u i c) : num i < num c ∧ c ∈ nodes ∧ ∀ x, u i = some x → Anc u s x c := by
  obtain ⟨r, h1, h2, h3, h4⟩ := H.pred P hi his him
  have hrc := hb.over r h1 h4
  have hn := (Anc.num_le H.st hrc).1
  refine ⟨by omega, H.st.mem P hb.set, fun x hx => ?_⟩
  have hle := H.st.lca i x his hx c hb.over
  have hx0 : u0 i = some x := by rw [← H.old i hi (by omega)]; exact hx
  have h0 := B.fwd i x his hx0 r h1 h2 h3
  exact H.kept r h2 (by omega) x c h0 hrc hle
theorem Pass.step (P : Post E s nodes num) (B : Begin E s nodes num u0) {m : Int} {ch : Bool} (H : Pass E s nodes num u0 u m ch) {i c : Nat} (hi : i ∈ nodes) (his : i ≠ s) (him : (num i : Int) = m) (hb : Best E s u i c) :
    Pass E s nodes num u0 (setU u i c) (m - 1) (ch || decide (u i ≠ some c)) := by
  obtain ⟨hic, hcn, hmove⟩ := H.move P B hi his him hb
  obtain ⟨r, hr1, hr2, hr3, hr4⟩ := H.pred P hi his him
  have S := H.st
  have hrc := hb.over r hr1 hr4
  have ui : setU u i c i = some c := by simp [setU]
  have uj : ∀ j, j ≠ i → setU u i c j = u j := fun j h => by unfold setU; rw [if_neg h]
  have hi' : ∀ {v a}, num i < num v → Anc u s v a → Anc (setU u i c) s v a := fun hv ha => anc_high S hv ha
  have back : ∀ {v a}, num i < num v → (u v).isSome = true → Anc (setU u i c) s v a → Anc u s v a := fun hv hs ha => anc_high_back S hv hs ha
  have sub : ∀ {v a}, (u v).isSome = true → Anc (setU u i c) s v a → Anc u s v a := fun {v a} hs ha =>
    anc_back S his hic hmove (fun h => back hic hb.set h) ha (fun e => by rw [← e]; exact hs) hs
  have setMono : ∀ v, (u v).isSome = true → (setU u i c v).isSome = true := fun v h => by
    by_cases e : v = i
    · rw [e, ui]; rfl
    · rw [uj v e]; exact h
  have tree' : ∀ v p, v ≠ s → setU u i c v = some p → v ∈ nodes ∧ p ∈ nodes ∧ num v < num p ∧ (setU u i c p).isSome = true := by
    intro v p hv hp
    by_cases e : v = i
    · subst e
      rw [ui] at hp; cases hp
      exact ⟨hi, hcn, hic, setMono c hb.set⟩
    · rw [uj v e] at hp
      obtain ⟨a, b, d, f⟩ := S.tree v p hv hp
      exact ⟨a, b, d, setMono p f⟩
  have low' : ∀ v p, v ≠ s → setU u i c v = some p → PLow E num p v := by
    intro v p hv hp
    by_cases e : v = i
    · subst e
      rw [ui] at hp; cases hp
      rcases Anc.plow S hrc with rfl | h
      · exact .one hr1 hic
      · exact h.step hr1 hic
    · rw [uj v e] at hp; exact S.low v p hv hp
  have safei : ∀ d, Dom E s d i → Anc (setU u i c) s i d := by
    intro d hd
    by_cases e : d = i
    · rw [e]; exact .refl _
    · refine .up his ui (hi' hic (hb.least d fun p hp hps => S.safe p d hps (hd.pred e ((P.reach p).1 (S.mem P hps)) hp)))
  have safe' : ∀ v d, (setU u i c v).isSome = true → Dom E s d v → Anc (setU u i c) s v d := by
    intro v d hv hd
    by_cases e : v = i
    · subst e; exact safei d hd
    · rw [uj v e] at hv
      have ha := S.safe v d hv hd
      clear e
      induction ha with
      | refl => exact .refl _
      | up h1 h2 h3 ih =>
        rename_i v p d
        by_cases e : v = i
        · subst e; exact safei d hd
        · obtain ⟨_, hpn, hnp, hps⟩ := S.tree v p h1 h2
          refine .up h1 (by rw [uj v e]; exact h2) ?_
          by_cases e2 : p = d
          · rw [e2]; exact .refl _
          · have hnd := (Anc.num_le S h3).1
            have hdn : d ∈ nodes := S.mem P ((Anc.num_le S h3).2 hps)
            have hlt : num p < num d := by
              rcases Nat.lt_or_ge (num p) (num d) with h | h
              · exact h
              · exact absurd (P.inj hpn hdn (by omega)) e2
            exact ih hps ⟨(P.reach p).1 hpn, fun hav => hd.2 ((S.low v p h1 h2).avoid hlt hav)⟩
  have lca' : ∀ j x, j ≠ s → setU u i c j = some x → ∀ d, (∀ p, (p, j) ∈ E → (setU u i c p).isSome = true → Anc (setU u i c) s p d) → num x ≤ num d := by
    intro j x hj hx d hd
    have hd2 : ∀ p, (p, j) ∈ E → (u p).isSome = true → Anc u s p d := fun p hp hps => sub hps (hd p hp (setMono p hps))
    by_cases e : j = i
    · subst e
      rw [ui] at hx; cases hx
      exact (Anc.num_le S (hb.least d hd2)).1
    · rw [uj j e] at hx
      exact S.lca j x hj hx d hd2
  have notI : ∀ v, m < (num v : Int) → v ≠ i := fun v h e => by subst e; omega
  have hmore : ∀ v, v ∈ nodes → m - 1 < (num v : Int) → v = i ∨ m < (num v : Int) := by
    intro v hv h
    rcases Int.lt_or_le m (num v : Int) with h1 | h1
    · exact .inr h1
    · exact .inl (P.inj hv hi (by omega))
  refine ⟨⟨by rw [uj s (Ne.symm his)]; exact S.root, tree', low', safe', lca'⟩, fun v hv h => ?_, fun v hv h => ?_, fun v hv hs h r' h1 h2 h3 => ?_, fun v hv h y a hy ha hn => ?_, fun hc => ?_, fun hc v hv hs h => ?_⟩
  · rw [uj v (fun e => by subst e; omega)]
    exact H.old v hv (by omega)
  · rcases hmore v hv h with e | h
    · rw [e, ui]; rfl
    · exact setMono v (H.set v hv h)
  · rcases hmore v hv h with e | h
    · subst e
      exact ⟨c, ui, hi' h3 (hb.over r' h1 (H.set r' h2 (by omega)))⟩
    · obtain ⟨x, hx, ha⟩ := H.fwd v hv hs h r' h1 h2 h3
      exact ⟨x, by rw [uj v (notI v h)]; exact hx, hi' (by omega) ha⟩
  · rcases hmore v hv h with e | h
    · subst e
      by_cases e : v = y
      · rw [← e]; exact ha
      · obtain ⟨hvs, z, hz, hzy⟩ := hy.next e
        have hz' : u v = some z := by rw [H.old v hv (by omega)]; exact hz
        obtain ⟨_, hzn, hnz, hzs⟩ := S.tree v z hvs hz'
        have hny := (Anc.num_le B.st hzy).1
        by_cases e2 : v = a
        · subst e2; omega
        · obtain ⟨_, c', hc', hca⟩ := ha.next e2
          rw [ui] at hc'; cases hc'
          have h5 : Anc u s z a := (hmove z hz').trans (back hic hb.set hca)
          exact hi' (by omega) (H.kept z hzn (by omega) y a hzy h5 hn)
    · have hs := H.set v hv h
      have h5 := back (by omega) hs ha
      have h6 := H.kept v hv h y a hy h5 hn
      have h7 := (Anc.num_le B.st hy).1
      exact hi' (by omega) h6
  · simp only [Bool.or_eq_false_iff, decide_eq_false_iff_not, Decidable.not_not] at hc
    have e : setU u i c = u := by
      funext j
      by_cases e : j = i
      · rw [e, ui, hc.2]
      · exact uj j e
    rw [e]; exact H.same hc.1
  · simp only [Bool.or_eq_false_iff, decide_eq_false_iff_not, Decidable.not_not] at hc
    have e : setU u i c = u := by
      funext j
      by_cases e : j = i
      · rw [e, ui, hc.2]
      · exact uj j e
    rw [e]
    rcases hmore v hv h with e2 | h
    · subst e2
      exact ⟨c, hc.2, hb.over⟩
    · exact H.fix hc.1 v hv hs h
theorem Pass.finish {ch : Bool} (H : Pass E s nodes num u0 u (-1) ch) : Begin E s nodes num u :=
  ⟨H.st, fun v x hs hx r h1 h2 h3 => by
    obtain ⟨x', hx', ha⟩ := H.fwd v (H.st.tree v x hs hx).1 hs (by omega) r h1 h2 h3
    rw [hx] at hx'; cases hx'
    exact ha⟩
theorem Pass.done (P : Post E s nodes num) (H : Pass E s nodes num u0 u (-1) false) (i d : Nat) (hi : i ∈ nodes) : Anc u s i d ↔ Dom E s d i := by
  constructor
  · intro ha
    refine ⟨(P.reach i).1 hi, fun hr => ?_⟩
    clear hi
    induction hr with
    | here hne => exact hne ha.root.symm
    | step hr he hne ih =>
      rename_i a b
      obtain ⟨hbs, p, hp, hpd⟩ := ha.next hne
      have hbn : b ∈ nodes := (H.st.tree b p hbs hp).1
      obtain ⟨c, hc, hall⟩ := H.fix rfl b hbn hbs (by omega)
      rw [hp] at hc; cases hc
      have han : a ∈ nodes := (P.reach a).2 hr.rch
      exact ih ((hall a he (H.set a han (by omega))).trans hpd)
  · exact H.st.safe i d (H.set i hi (by omega))
end
end Go.Proofs.YtnmfbaahabcocaaDoor
end
