/- Joined by my own program, in build order: SP. -/
import Derived.Test.YtcldeoolglhdoaaDoorY10
set_option linter.unusedVariables false
set_option linter.unusedSimpArgs false
section
set_option linter.unusedVariables false
namespace Go.Proofs.YtcldeoolglhdoaaDoor
namespace G
structure SE where
  f : Nat
  t : Nat
  k : Nat
  s : Nat
def plE (E : List SE) : List (Nat × Nat) := (E.filter fun e => e.k == 1 || e.k == 2).map fun e => (e.f, e.t)
theorem mem_plE {E : List SE} {a b : Nat} : (a, b) ∈ plE E ↔ ∃ e ∈ E, (e.k = 1 ∨ e.k = 2) ∧ e.f = a ∧ e.t = b := by
  simp only [plE, List.mem_map, List.mem_filter, Bool.or_eq_true, beq_iff_eq, Prod.mk.injEq]
  constructor
  · rintro ⟨e, ⟨h1, h2⟩, h3, h4⟩; exact ⟨e, h1, h2, h3, h4⟩
  · rintro ⟨e, h1, h2, h3, h4⟩; exact ⟨e, ⟨h1, h2⟩, h3, h4⟩
inductive SL (E : List SE) : Bool → Nat → Nat → Prop
  | refl (v : Nat) : SL E false v v
  | edge {v a b : Nat} (h : SL E false v a) (e : (a, b) ∈ plE E) : SL E false v b
  | over {v a b : Nat} (h : SL E false v a) (h' : SL E true a b) : SL E false v b
  | sum {c r : SE} (hc : c ∈ E) (kc : c.k = 4) (hr : r ∈ E) (kr : r.k = 5) (hs : c.s = r.s) (h : SL E false c.t r.f) : SL E true c.f r.t
theorem SL.sub {E : List SE} {S F : Nat × Nat → Prop} (h0 : ∀ c ∈ E, c.k = 4 → S (c.t, c.t)) (h1 : ∀ v a b, S (v, a) → (a, b) ∈ plE E → S (v, b)) (h2 : ∀ v a b, S (v, a) → F (a, b) → S (v, b))
    (h3 : ∀ c ∈ E, c.k = 4 → ∀ r ∈ E, r.k = 5 → c.s = r.s → S (c.t, r.f) → F (c.f, r.t)) {q : Bool} {a b : Nat} (h : SL E q a b) : (q = true → F (a, b)) ∧ (q = false → (∃ c ∈ E, c.k = 4 ∧ c.t = a) → S (a, b)) := by
  induction h with
  | refl v => exact ⟨(fun h => by cases h), fun _ ⟨c, h, k, e⟩ => by subst e; exact h0 c h k⟩
  | edge _ e ih => exact ⟨(fun h => by cases h), fun _ hc => h1 _ _ _ (ih.2 rfl hc) e⟩
  | over _ _ ih ih' => exact ⟨(fun h => by cases h), fun _ hc => h2 _ _ _ (ih.2 rfl hc) (ih'.1 rfl)⟩
  | sum hc kc hr kr hs _ ih => exact ⟨fun _ => h3 _ hc kc _ hr kr hs (ih.2 rfl ⟨_, hc, kc, rfl⟩), (fun h => by cases h)⟩
theorem SL.trans {E : List SE} {q : Bool} {a b c : Nat} (h : SL E false a b) (h' : SL E q b c) : q = false → SL E false a c := by
  intro hq
  subst hq
  generalize hb : false = q at h'
  induction h' with
  | refl => exact h
  | edge _ e ih => exact .edge (ih h hb) e
  | over _ h2 ih _ => exact .over (ih h hb) h2
  | sum => cases hb
theorem SL.lt {E : List SE} {N : Nat} (hE : ∀ e ∈ E, e.f < N ∧ e.t < N) {q : Bool} {a b : Nat} (h : SL E q a b) : (q = true → a < N ∧ b < N) ∧ (q = false → a < N → b < N) := by
  induction h with
  | refl v => exact ⟨(fun h => by cases h), fun _ h => h⟩
  | edge _ e ih => exact ⟨(fun h => by cases h), fun _ _ => by obtain ⟨x, h1, -, -, h4⟩ := mem_plE.1 e; subst h4; exact (hE x h1).2⟩
  | over _ _ ih ih' => exact ⟨(fun h => by cases h), fun _ _ => (ih'.1 rfl).2⟩
  | sum hc kc hr kr hs _ ih => exact ⟨fun _ => ⟨(hE _ hc).1, (hE _ hr).2⟩, (fun h => by cases h)⟩
structure Base (E : List SE) (N : Nat) (S F W : List (Nat × Nat)) : Prop where
  sS : ∀ p ∈ S, SL E false p.1 p.2
  sF : ∀ p ∈ F, SL E true p.1 p.2
  bS : ∀ p ∈ S, p.1 < N ∧ p.2 < N
  bF : ∀ p ∈ F, p.1 < N ∧ p.2 < N
  nS : S.Nodup
  nF : F.Nodup
  sub : ∀ p ∈ W, p ∈ S
  nW : W.Nodup
section
variable {E : List SE} {N : Nat} {S F W : List (Nat × Nat)} {p : Nat × Nat}
end
end G
end Go.Proofs.YtcldeoolglhdoaaDoor
end
