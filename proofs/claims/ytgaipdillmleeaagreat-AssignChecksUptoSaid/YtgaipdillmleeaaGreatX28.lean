/- Joined by my own program, in build order: Vc2, Vd, Ve, Vf, Vf2, Vf3, Vg, Vh. -/
import Derived.Test.YtgaipdillmleeaaGreatX27
import Derived.Laws.StructEq
import Derived.MapKept
import Derived.Deep.LoopGhost
set_option linter.unusedVariables false
set_option linter.unusedSimpArgs false
section
namespace Go.Proofs.YtgaipdillmleeaaGreat
namespace V
open Go.RowKit
def Np : C → C → Option Bool
 | .int k a, .int k' b => if k = k' then some (decide (a = b)) else none
 | .bool a, .bool b => some (a == b)
 | .str a, .str b => some (a.toList == b.toList)
 | _, _ => none
def rR : List C → List C → Option Bool
 | [], [] => some true
 | x :: xs, y :: ys => match Np x y, rR xs ys with | some a, some b => some (a && b) | _, _ => none
 | _, _ => none
def vN : A1 → A1 → Option Bool
 | .c (.int k a), .c (.int k' b) => if k = k' then some (decide (a = b)) else none
 | .c (.str a), .c (.str b) => some (a.toList == b.toList)
 | .agg xs, .agg ys => rR xs ys
 | _, _ => none
def gu (k : A1) : List (A1 × A1) → Option (Option (Nat × A1))
 | [] => some none
 | p :: l => match vN k p.1 with
   | some true => some (some (0, p.2))
   | some false => (match gu k l with | some (some (i, v)) => some (some (i + 1, v)) | some none => some none | none => none)
   | none => none
def JE (L : List (List UInt8)) : A1 → Option A1 → Bool → Option (A × Option O)
 | .c (.str s), some (.c (.int .i64 0)), false => some (.c (.int .i64 (if L.contains s.data.toList = true then 1 else 0)), none)
 | _, _, _ => none
def yu (T : Tab) (ty : Nat) : Option A1 := match T.one ty with
 | some v => (ofConst v).down
 | none => (match T.zero ty with
   | some (v1 :: v2 :: vs) => (match qJ (fun _ => none) ((v1 :: v2 :: vs).map ofConst) with | some xs => some (.agg xs) | none => none)
   | _ => none)
def Ci : Nat → List (Nat × Nat) → Bool
 | _, [] => true
 | j, p :: l => decide (p.2 = j) && Ci (j + 1) l
def BX (T : Tab) (ft : Nat) : C → Bool
 | .int k _ => (match T.int ft with | some k' => decide (k = k') | none => false)
 | .bool _ => T.bool ft
 | .str _ => T.str ft
 | _ => false
def nH (T : Tab) : List (Nat × Nat) → List C → Bool
 | [], [] => true
 | p :: l, x :: xs => BX T p.1 x && nH T l xs
 | _, _ => false
def jW (T : Tab) (kt : Nat) : A1 → Bool
 | .c (.int k _) => (match T.int kt with | some k' => decide (k = k') | none => false)
 | .c (.str _) => T.str kt
 | .agg xs => (match T.seq kt with | some l => Ci 0 l && nH T l xs | none => false)
 | _ => false
def nL (ok : Bool) (v : A1) (b : Bool) : A := if ok = true then .tupA [v, .c (.bool b)] else v.up
def eqT (T : Tab) (ft : Nat) : C → C → Option Bool
 | .int k a, .int k' b => if k = k' then (match T.int ft with | some _ => some (decide (a = b)) | none => none) else none
 | .bool a, .bool b => if T.bool ft = true then some (a == b) else none
 | .str a, .str b => if T.str ft = true then some (a.toList == b.toList) else none
 | _, _ => none
def vI (T : Tab) : List (Nat × Nat) → List C → List C → Option Bool
 | [], [], [] => some true
 | p :: l, a :: xs, b :: ys => match eqT T p.1 a b, vI T l xs ys with | some x, some y => some (x && y) | _, _ => none
 | _, _, _ => none
def FI : BinOp → Bool → Option C
 | .eql, b => some (.bool b)
 | .neq, b => some (.bool !b)
 | _, _ => none
def toR (mem : Mem) : A → Option (Bool × List C)
 | .agg xs => some (true, xs)
 | a => match asC mem a with | some x => some (false, [x]) | none => none
def toKey : A → Option A1
 | .c (.int k n) => some (.c (.int k n))
 | .c (.str s) => some (.c (.str s))
 | .agg xs => some (.agg xs)
 | _ => none
def mn3 (a b c : Int) : Int := if c < (if b < a then b else a) then c else (if b < a then b else a)
def mx3 (a b c : Int) : Int := if (if a < b then b else a) < c then c else (if a < b then b else a)
def vO : List Value → Bool
 | [.slice none 0 0] => true
 | _ => false
def wF (a : A) : Option (List A1) := match gG a with | some l => oQ l | none => none
def rF (place : Nat → Option (Nat × Nat)) : List A1 → List (Nat × Option (List A1)) → Option (List A1)
 | cells, [] => some cells
 | cells, (i, v) :: rest => match place i, v with
   | some (o, n), some xs => if xs.length = n ∧ o + n ≤ cells.length then rF place (cells.take o ++ (xs ++ cells.drop (o + n))) rest else none
   | _, _ => none
def qv2 (T : Tab) (s : Nat → A) (mem : Mem) (id : Nat) : Op → Option (A × Option O)
 | .buildSlice ty len parts => if T.lit = true then (match T.elem ty with
   | some (e, n) => (match yH T e with
     | some zs => if zs.length = n ∧ 0 < len ∧ len * n ≤ 2 ^ 24 then (match oU (fun i => some (i * n, n)) (List.replicate len zs).flatten (parts.toList.map fun p => (p.1, j3 mem (ev s p.2))) with | some xs => some (.own id, some (.mrow e n (chunks n len xs))) | none => none) else none
     | none => none)
   | none => none) else none
 | .build ty parts => match T.fields ty, T.zero ty with
   | some l, some zs => (match oQ (zs.map ofConst) with
     | some z1 => (match rF (fun i => l[i]?) z1 (parts.toList.map fun p => (p.1, wF (ev s p.2))) with | some xs => some (.aggA xs, none) | none => none)
     | none => none)
   | _, _ => none
 | .load ty x => match ev s x with
   | .eptr j e i f => (match mem j with
     | some (.mrow _ e' xs) => if e' = e then (match xs[i]? with | some cs => (match ldR T ty (cs.drop f) with | some r => some (r, none) | none => none) | none => none) else none
     | some (.rows _ xs) => if e = 1 ∧ f = 0 then (match T.ty ty, xs[i]? with | some (_, false), some y => some (y.up, none) | _, _ => none) else none
     | _ => none)
   | _ => none
 | .fieldAddr ty x f => match T.off ty f, ev s x with
   | some (o, _, _), .eptr j e i g => some (.eptr j e i (g + o), none)
   | _, _ => none
 | .field ty x f => match T.off ty f, ev s x with
   | some (o, n, true), .aggA xs => some (.aggA ((xs.drop o).take n), none)
   | some (o, _, false), .aggA xs => (match xs[o]? with | some y => some (y.up, none) | none => none)
   | _, _ => none
 | .indexAddr ty x i => match T.elem ty, ev s x, ev s i with
   | some (_, n), .own j, .c (.int _ k) => (match mem j with
     | some (.mrow _ e xs) => if e = n ∧ 0 ≤ k ∧ k.toNat < xs.length then some (.eptr j n k.toNat 0, none) else none
     | some (.rows _ xs) => if n = 1 ∧ 0 ≤ k ∧ k.toNat < xs.length then some (.eptr j n k.toNat 0, none) else none
     | _ => none)
   | _, _, _ => none
 | .nilCheck x => match ev s x with | .eptr j e i f => some (.eptr j e i f, none) | .map j => some (.map j, none) | .fnR f caps => some (.fnR f caps, none) | _ => none
 | .slice ty x lo hi none => match T.elem ty, ev s x with
   | some (_, n), .own j => (match mem j with
     | some (.mrow _ e xs) => if e = n then (match tV 0 (lo.map (ev s)), tV xs.length (hi.map (ev s)) with | some l, some h => if l ≤ h ∧ h ≤ xs.length then some (.win j n l h, none) else none | _, _ => none) else none
     | _ => none)
   | _, _ => none
 | .makeSlice t l c => match T.elem t, ev s l, ev s c with
   | some (e, n), .c (.int .i64 k), .c (.int .i64 k') => (match T.bytes e, T.zero e with
     | some b, some vs => if k = k' ∧ 0 ≤ k ∧ vs.length = n ∧ k.toNat * b ≤ 140737488355328 ∧ k ≤ 9223372036854775807 then
        (if vO vs = true then some (.own id, some (.rows e (List.replicate k.toNat .nil))) else match qJ (fun _ => none) (vs.map ofConst) with
        | some zs => some (.own id, some (.mrow e n (List.replicate k.toNat zs)))
        | none => (match vs with | [v] => (match (ofConst v).down with | some z => some (.own id, some (.rows e (List.replicate k.toNat z))) | none => none) | _ => none)) else none
     | _, _ => none)
   | _, _, _ => none
 | .makeMap t none => match T.map t with | some _ => some (.map id, some (.map [])) | none => none
 | .lookup t x k ok => match T.map t, toKey (ev s k) with
   | some (kt, e), some key => if jW T kt key = true then (match ev s x with
     | .map j => (match mem j with
       | some (.map ents) => (match gu key ents with
         | some (some (_, v)) => some (nL ok v true, none)
         | some none => (match yu T e with | some z => some (nL ok z false, none) | none => none)
         | none => none)
       | some (.names (some L)) => JE L key (yu T e) ok
       | _ => none)
     | .nilv (.map none) => (match yu T e with | some z => some (nL ok z false, none) | none => none)
     | _ => none) else none
   | _, _ => none
 | .binOp op t x y _ => match T.seq t, ev s x, ev s y with
   | some l, .agg xs, .agg ys => if Ci 0 l = true then (match vI T l xs ys with
     | some b => (match FI op b with | some r => some (.c r, none) | none => none)
     | none => none) else none
   | _, _, _ => none
 | .convert a b x => match T.int a, T.int b, ev s x with
   | some _, some k', .c (.int _ n) => some (.c (.int k' (k'.wrap n)), none)
   | _, _, _ => none
 | .unOp .neg _ x => match ev s x with | .c (.int k n) => some (.c (.int k (k.wrap (0 - n))), none) | _ => none
 | .extract x i => match ev s x with
   | .tupA xs => (match xs[i]? with | some y => some (y.up, none) | none => none)
   | _ => none
 | .makeInterface t x => if ((T.int t).isSome || (T.fields t).isSome) = true then (match toR mem (ev s x) with | some r => some (.ifc t r, none) | none => none) else none
 | .call c => match c.callee, c.args.toList, c.argTypes.toList with
   | .builtin .len, [x], [t] => (match ev s x with
     | .own j => (match T.elem t, mem j with
       | some _, some (.mrow _ _ xs) => some (.c (.int .i64 xs.length), none)
       | some _, some (.rows _ xs) => some (.c (.int .i64 xs.length), none)
       | _, _ => none)
     | .map j => (match T.map t, mem j with | some _, some (.map ents) => if ents.length ≤ 4611686018427387904 then some (.c (.int .i64 ents.length), none) else none | _, _ => none)
     | .nilv (.map none) => (match T.map t with | some _ => some (.c (.int .i64 0), none) | none => none)
     | .c (.str s) => if T.str t = true then some (.c (.int .i64 s.size), none) else none
     | _ => none)
   | .builtin .min, [x, y], _ => (match ev s x, ev s y with
     | .c (.int k a), .c (.int k' b) => if k = k' then some (.c (.int k (if b < a then b else a)), none) else none
     | _, _ => none)
   | .builtin .max, [x, y], _ => (match ev s x, ev s y with
     | .c (.int k a), .c (.int k' b) => if k = k' then some (.c (.int k (if a < b then b else a)), none) else none
     | _, _ => none)
   | .builtin .min, [x, y, z], _ => (match ev s x, ev s y, ev s z with
     | .c (.int k a), .c (.int k' b), .c (.int k'' c) => if k = k' ∧ k = k'' then some (.c (.int k (mn3 a b c)), none) else none
     | _, _, _ => none)
   | .builtin .max, [x, y, z], _ => (match ev s x, ev s y, ev s z with
     | .c (.int k a), .c (.int k' b), .c (.int k'' c) => if k = k' ∧ k = k'' then some (.c (.int k (mx3 a b c)), none) else none
     | _, _, _ => none)
   | _, _, _ => none
 | _ => none
def qv (T : Tab) (s : Nat → A) (mem : Mem) (id : Nat) (op : Op) : Option (A × Option O) := match qv1 T s mem id op with | some r => some r | none => qv2 T s mem id op
theorem Iy {n k : Nat} {zs : List Value} (hz : zs.length = n) (hn : 0 < n) : (madeCells zs.toArray (k * n)).toList = (List.replicate k zs).flatten := by
 refine List.ext_getElem? fun j => ?_;by_cases hj : j < k * n
 ·rw [qY hz k j hj];simp only [madeCells, Array.toList_map, Array.toList_range, List.getElem?_map, List.getElem?_range hj, Option.map_some, List.size_toArray, hz];have : j % n < zs.length := by rw [hz]; exact Nat.mod_lt _ hn
  simp [getElem!_pos, this]
 ·rw [List.getElem?_eq_none (by simp [madeCells]; omega), List.getElem?_eq_none (by rw [gT hz]; omega)]
section
variable {P : Go.Program} {T : Tab} {w0 w : World} {I0 I : Nat → Nat → Prop} {B : Nat → Value} {mem : Mem}
theorem Xz (h : MR w0 I0 B I mem w) {a : A} {v : Value} {r : Bool × List C} (ha : toR mem a = some r) (hv : RV B w I a v) : RT w I v r := by
 unfold toR at ha;split at ha
 ·cases ha; exact hv
 ·split at ha
  ·rename_i x hx; cases ha; exact ⟨x, rfl, ku h hx hv⟩
  ·cases ha
theorem R1s.drop {xs : List A1} {vs : List Value} (k : Nat) (h : R1s B w I xs vs) : R1s B w I (xs.drop k) (vs.drop k) := by
 induction k generalizing xs vs with
 | zero => exact h
 | succ k ih =>
   cases xs <;> cases vs
   ·trivial
   ·exact h.elim
   ·exact h.elim
   ·exact ih h.2
theorem R1s.take {xs : List A1} {vs : List Value} (k : Nat) (h : R1s B w I xs vs) : R1s B w I (xs.take k) (vs.take k) := by
 induction k generalizing xs vs with
 | zero => trivial
 | succ k ih =>
   cases xs <;> cases vs
   ·trivial
   ·exact h.elim
   ·exact h.elim
   ·exact ⟨h.1, ih h.2⟩
theorem rowAt.cell {ty : TypeId} {e : Nat} {v : Value} {n : Nat} {vs : List Value} (h : rowAt w ty e v n vs) {b off cap : Nat} (hv : v = .slice (some ⟨b, off, none⟩) n cap) {j : Nat} {u : Value} (hj : vs[j]? = some u) : w.cell? ⟨b, off + j, none⟩ = some u := by
 rcases h.2 with ⟨e1, -⟩ | ⟨g, o, c, cur, e1, hg, hn, hm, hs, ht⟩
 ·rw [hv] at e1; cases e1
 ·rw [hv] at e1; cases e1;have hl := (List.getElem?_eq_some_iff.1 hj).1;rw [← ht] at hj;rw [List.getElem?_take] at hj;split at hj
  ·rw [List.getElem?_drop] at hj;simp only [World.cell?, hg];simpa using hj
  ·cases hj
theorem rowAt.addr {ty : TypeId} {e : Nat} {v : Value} {n : Nat} {vs : List Value} (h : rowAt w ty e v n vs) (hn : 0 < n) : ∃ b off cap, v = .slice (some ⟨b, off, none⟩) n cap ∧ n ≤ cap ∧ cap ≤ maxLen := by
 rcases h.2 with ⟨-, e1⟩ | ⟨g, o, c, cur, e1, hg, hnc, hm, hs, ht⟩
 ·omega
 ·exact ⟨g, o, c, e1, hnc, hm⟩
theorem rowAt.shape {ty : TypeId} {e : Nat} {v : Value} {n : Nat} {vs : List Value} (h : rowAt w ty e v n vs) : ∃ ad cap, v = .slice ad n cap ∧ n ≤ cap := by
 rcases h.2 with ⟨e1, rfl⟩ | ⟨g, o, c, cur, e1, hg, hnc, hm, hs, ht⟩
 ·exact ⟨none, 0, e1, Nat.le_refl _⟩
 ·exact ⟨_, c, e1, hnc⟩
theorem kT {e : Nat} : ∀ {xs : List (List C)}, (∀ x ∈ xs, x.length = e) → ∀ (i j : Nat) (x : List C), xs[i]? = some x → j < e → (flat xs)[i * e + j]? = x[j]?
 | [], _, i, j, x, hx, _ => by simp at hx
 | y :: ys, hl, 0, j, x, hx, hj => by
   simp at hx; subst hx;simp only [flat, List.flatten_cons, Nat.zero_mul, Nat.zero_add];rw [List.getElem?_append_left (by rw [hl y (by simp)]; exact hj)]
 | y :: ys, hl, i + 1, j, x, hx, hj => by
   have := kT (fun z hz => hl z (List.mem_cons_of_mem _ hz)) i j x oD hj;have hy := hl y (by simp);exact aaQ
theorem kW {e : Nat} : ∀ {xs : List (List C)}, (∀ x ∈ xs, x.length = e) → (flat xs).length = xs.length * e
 | [], _ => by simp [flat]
 | y :: ys, hl => by
   have := kW (fun z hz => hl z (List.mem_cons_of_mem _ hz));simp only [flat, List.flatten_cons, List.length_append, List.length_cons] at this ⊢;rw [this, hl y (by simp), Nat.add_mul]; omega
theorem RCs.rep {vs : List Value} {zs : List C} (h : RCs w I vs zs) : ∀ k : Nat, RCs w I (List.replicate k vs).flatten (List.replicate k zs).flatten
 | 0 => trivial
 | k + 1 => by rw [List.replicate_succ, List.replicate_succ, List.flatten_cons, List.flatten_cons]; exact h.append (RCs.rep h k)
theorem R1s.rep {v : Value} {z : A1} (h : R1 B w I z v) : ∀ k : Nat, R1s B w I (List.replicate k z) (List.replicate k v)
 | 0 => trivial
 | k + 1 => ⟨h, R1s.rep h k⟩
theorem xB {k : IntKind} {a b : Int} (c : Prop) [Decidable c] (ha : (Lit.int k a).wf = true) (hb : (Lit.int k b).wf = true) : (Lit.int k (if c then a else b)).wf = true := by split <;> assumption
theorem Qa {m : Mem} (h : MR w0 I0 B I m w) {j : Nat} {ty : TypeId} {xs : List A1} (hj : m j = some (.rows ty xs)) {i : Nat} {y : A1} (hy : xs[i]? = some y) : ∀ q ∈ y.up.ids, (m q).isSome = true := fun q hq =>
 h.live j _ hj q (List.mem_flatMap.2 ⟨y, List.mem_of_getElem? hy, by rw [xQ] at hq; exact hq⟩)
theorem vH {w : World} {I : Nat → Nat → Prop} {mem : Mem} (h : MR w0 I0 B I mem w) {vs : List Value} {zs : List C} (h1 : ∀ v ∈ vs, v.oneCell' = true) (hz : qJ (fun _ => none) (vs.map ofConst) = some zs) : RCs w I vs zs := by
 have hn : MR w0 I0 B I (fun _ => none) w := ⟨h.below, h.glob, h.base, h.old, h.there, fun _ _ h => absurd h (bV _), fun _ _ h => absurd h (bV _), fun _ _ _ _ h => absurd h (bV _), fun _ _ h => absurd h (bV _)⟩;exact kY hn hz (ig h1)
theorem Rz (hT : T.Ok P) {ft : Nat} {x y : C} {u v : Value} {b : Bool} (hu : RC w I u x) (hv : RC w I v y) (h : eqT T ft x y = some b) (n : Nat) :
 (Op.equalIn (n + 1) ft u v).run P w = .ok b w ∧ (isAgg ft).run P w = .ok false w := by
 unfold eqT at h
 split at h
 ·rename_i k a' k' b'
  cases hu; cases hv
  split at h
  ·rename_i hk
   subst hk
   split at h
   ·rename_i q hq
    cases h
    have hd := hT.int _ _ hq
    exact ⟨by rw [run_equalIn_int w n ft k q a' b' hd]; congr 1, by simp [isAgg, run_underlying hd]⟩
   ·cases h
  ·cases h
 ·cases hu; cases hv
  split at h
  ·rename_i hq
   cases h
   have hd := hT.bool _ hq
   exact ⟨run_equalIn_bool' w n ft _ _ hd, by simp [isAgg, run_underlying hd]⟩
  ·cases h
 ·cases hu; cases hv
  split at h
  ·rename_i hq
   cases h
   have hd := hT.str _ hq
   exact ⟨run_equalIn_string w n ft _ _ hd, by simp [isAgg, run_underlying hd]⟩
  ·cases h
 ·cases h
theorem Br (hT : T.Ok P) (n : Nat) : ∀ (fs : List Field) (l : List (Nat × Nat)) (j : Nat) (us vs : List Value) (xs ys : List C) (b : Bool), fs.map (fun f => (f.name == "_", f.type, f.offset)) = l.map (fun p => (false, p.1, p.2)) → Ci j l = true →
 RCs w I (us.drop j) xs → RCs w I (vs.drop j) ys → vI T l xs ys = some b → (Op.eqFields (n + 1) us.toArray vs.toArray fs).run P w = .ok b w
 | [], l, j, us, vs, xs, ys, b, hf, _, hu, hv, h => by
   cases l with
   | cons p l => simp at hf
   | nil =>
     cases xs with
     | cons x xs => simp [vI] at h
     | nil =>
       cases ys with
       | cons y ys => simp [vI] at h
       | nil =>
         simp only [vI, Option.some.injEq] at h;subst h; rfl
 | f :: fs, l, j, us, vs, xs, ys, b, hf, ho, hu, hv, h => by
   cases l with
   | nil => simp at hf
   | cons p l =>
     simp only [List.map_cons, List.cons.injEq, Prod.mk.injEq] at hf;obtain ⟨⟨f1, f2, f3⟩, hf⟩ := hf;simp only [Ci, Bool.and_eq_true, decide_eq_true_eq] at ho;cases xs with
     | nil => simp [vI] at h
     | cons x xs =>
       cases ys with
       | nil => simp [vI] at h
       | cons y ys =>
         simp only [vI] at h;split at h
         ·rename_i b1 b2 h1 h2;cases h
          cases hus : us.drop j with
          | nil => rw [hus] at hu; exact hu.elim
          | cons u us' =>
            cases hvs : vs.drop j with
            | nil => rw [hvs] at hv; exact hv.elim
            | cons v vs' =>
              rw [hus] at hu;rw [hvs] at hv;have eu : us[j]? = some u := by have := List.getElem?_drop (xs := us) (i := j) (j := 0); rw [hus] at this; simpa using this.symm
              have ev' : vs[j]? = some v := by have := List.getElem?_drop (xs := vs) (i := j) (j := 0); rw [hvs] at this; simpa using this.symm
              have du : us.drop (j + 1) = us' := by rw [← List.drop_drop, hus]; rfl
              have dv : vs.drop (j + 1) = vs' := by rw [← List.drop_drop, hvs]; rfl
              obtain ⟨q1, q2⟩ := Rz (P := P) hT hu.1 hv.1 h1 n;rw [← f2] at q1 q2;have hn : f.name ≠ "_" := by simpa using f1
              have ih := Br hT n fs l (j + 1) us vs xs ys b2 hf ho.2 (by rw [du]; exact hu.2) (by rw [dv]; exact hv.2) h2;have pu : (part f.type us.toArray f.offset).run P w = .ok u w := by
               exact Tx
              have pv : (part f.type vs.toArray f.offset).run P w = .ok v w := by
               unfold part;simp only [Sem.run_bind, q2, Result.andThen_ok];simp [f3, ho.1, ev']
              simp only [Op.eqFields, if_pos hn, Sem.run_bind, pu, pv, q1, Result.andThen_ok];cases b1
              ·simp
              ·simp [ih]
         ·cases h
theorem yO (hT : T.Ok P) {kt : Nat} {x : C} {kv : Value} (hk : jW T kt (.c x) = true) (hr : R1 B w I (.c x) kv) : ∃ d, P.underlying kt = some d ∧ MapKept.IsKey d kv := by
 cases x with
 | int k n =>
   simp only [jW] at hk;split at hk
   ·rename_i k' hk';have : k = k' := of_decide_eq_true hk;subst this;have hr : RC w I kv (.int k n) := hr;cases hr
    exact ⟨_, hT.int _ _ hk', rfl⟩
   ·cases hk
 | str s =>
   have hr : RC w I kv (.str s) := hr;cases hr
   exact ⟨_, hT.str _ hk, trivial⟩
 | bool b => cases hk
 | sl ys => cases hk
theorem O6 (hT : T.Ok P) {ft : Nat} {x : C} {u : Value} (hk : BX T ft x = true) (hr : RC w I u x) (e : Bool) (n : Nat) : (Instr.checkKey e (n + 1) ft u).run P w = .ok () w ∧ (isAgg ft).run P w = .ok false w ∧ (∀ m, Instr.sameBits m u u = true) := by
 cases hr with
 | @int k a hw =>
   simp only [BX] at hk;split at hk
   ·rename_i k' hk';have hd := hT.int _ _ hk';exact abd
   ·cases hk
 | bool =>
   have hd := hT.bool _ hk;exact abd
 | str =>
   have hd := hT.str _ hk;exact ⟨by simp [Instr.checkKey, run_underlying hd], by simp [isAgg, run_underlying hd], fun m => MapKept.sameBits_self (d := .string) (k := .string _) trivial m⟩
 | sl => cases hk
theorem CQ (hT : T.Ok P) (e : Bool) (n : Nat) : ∀ (fs : List Field) (l : List (Nat × Nat)) (j : Nat) (us : List Value) (xs : List C), fs.map (fun f => (f.name == "_", f.type, f.offset)) = l.map (fun p => (false, p.1, p.2)) → Ci j l = true →
 RCs w I (us.drop j) xs → nH T l xs = true → (forIn fs PUnit.unit (fun f _ => if f.name ≠ "_" then do let v ← part f.type us.toArray f.offset; Instr.checkKey e (n + 1) f.type v; pure (ForInStep.yield PUnit.unit) else pure (ForInStep.yield PUnit.unit)) : Sem PUnit).run P w = .ok PUnit.unit w ∧ ∀ m, ∀ u ∈ us.drop j, Instr.sameBits m u u = true
 | [], l, j, us, xs, hf, _, hu, hk => by
   cases l with
   | cons p l => simp at hf
   | nil =>
     cases xs with
     | cons x xs => simp [nH] at hk
     | nil =>
       refine ⟨by simp, fun m u hm => ?_⟩;cases hus : us.drop j with
       | nil => rw [hus] at hm; cases hm
       | cons u us' => rw [hus] at hu; exact hu.elim
 | f :: fs, l, j, us, xs, hf, ho, hu, hk => by
   cases l with
   | nil => simp at hf
   | cons p l =>
     simp only [List.map_cons, List.cons.injEq, Prod.mk.injEq] at hf;obtain ⟨⟨f1, f2, f3⟩, hf⟩ := hf;simp only [Ci, Bool.and_eq_true, decide_eq_true_eq] at ho;cases xs with
     | nil => simp [nH] at hk
     | cons x xs =>
       simp only [nH, Bool.and_eq_true] at hk;cases hus : us.drop j with
       | nil => rw [hus] at hu; exact hu.elim
       | cons u us' =>
         rw [hus] at hu;have eu : us[j]? = some u := by have := List.getElem?_drop (xs := us) (i := j) (j := 0); rw [hus] at this; simpa using this.symm
         have du : us.drop (j + 1) = us' := by rw [← List.drop_drop, hus]; rfl
         obtain ⟨q1, q2, q3⟩ := O6 (P := P) hT hk.1 hu.1 e n;rw [← f2] at q1 q2;have hn : f.name ≠ "_" := by simpa using f1
         obtain ⟨ih1, ih2⟩ := CQ hT e n fs l (j + 1) us xs hf ho.2 (by rw [du]; exact hu.2) hk.2;have pu : (part f.type us.toArray f.offset).run P w = .ok u w := by
          exact Tx
         refine ⟨?_, fun m v hv => ?_⟩
         ·simp only [List.forIn_cons, if_pos hn, Sem.run_bind, pu, q1, Result.andThen_ok, Sem.run_pure];exact ih1
         ·rcases List.mem_cons.1 hv with rfl | hv
          ·exact q3 m
          ·rw [← du] at hv; exact ih2 m v hv
theorem QG {ft : Nat} {x y : C} {b : Bool} (hk : BX T ft x = true) (h : Np x y = some b) : eqT T ft x y = some b := by
 unfold Np at h;split at h
 ·split at h
  ·rename_i hkk;cases h
   simp only [BX] at hk;split at hk
   ·rename_i q hq;simp [eqT, hkk, hq]
   ·cases hk
  ·cases h
 ·cases h
  simp only [BX] at hk;simp [eqT, hk]
 ·cases h
  simp only [BX] at hk;simp [eqT, hk]
 ·cases h
theorem EJ : ∀ {l : List (Nat × Nat)} {xs ys : List C} {b : Bool}, nH T l xs = true → rR xs ys = some b → vI T l xs ys = some b
 | [], [], [], b, _, h => h
 | [], [], _ :: _, b, _, h => by simp [rR] at h
 | [], _ :: _, _, b, hk, _ => by simp [nH] at hk
 | _ :: _, [], _, b, hk, _ => by simp [nH] at hk
 | p :: l, x :: xs, [], b, _, h => by simp [rR] at h
 | p :: l, x :: xs, y :: ys, b, hk, h => by
   simp only [nH, Bool.and_eq_true] at hk;simp only [rR] at h;split at h
   ·rename_i b1 b2 h1 h2;cases h
    simp only [vI, QG hk.1 h1, EJ hk.2 h2]
   ·cases h
theorem R6 {x y : C} {u v : Value} (hu : RC w I u x) (hv : RC w I v y) (h : Np x y = some true) : v = u := by
 unfold Np at h;split at h
 ·cases hu; cases hv
  split at h
  ·rename_i hk;subst hk;simp only [Option.some.injEq, decide_eq_true_eq] at h;rw [h]
  ·cases h
 ·cases hu; cases hv
  simp only [Option.some.injEq, beq_iff_eq] at h;rw [h]
 ·rename_i a a';cases hu; cases hv
  have : a.toList = a'.toList := by simpa using h
  rw [ByteArray.toList_eq, ByteArray.toList_eq] at this;obtain ⟨⟨x⟩⟩ := a; obtain ⟨⟨y⟩⟩ := a';simp at this; rw [this]
 ·cases h
theorem Gr : ∀ {xs ys : List C} {us vs : List Value}, RCs w I us xs → RCs w I vs ys → rR xs ys = some true → vs = us
 | [], [], [], [], _, _, _ => rfl
 | [], _ :: _, _, _, _, _, h => by simp [rR] at h
 | _ :: _, [], _, _, _, _, h => by simp [rR] at h
 | x :: xs, y :: ys, u :: us, v :: vs, hu, hv, h => by
   simp only [rR] at h;split at h
   ·rename_i b1 b2 h1 h2;simp only [Option.some.injEq, Bool.and_eq_true] at h;obtain ⟨rfl, rfl⟩ := h;rw [R6 hu.1 hv.1 h1, Gr hu.2 hv.2 h2]
   ·cases h
structure KeyFine (P : Go.Program) (w : World) (kt : Nat) (kv : Value) : Prop where
 check : ∀ e, (Instr.checkKey e 10000 kt kv).run P w = .ok () w
 stays : (Instr.keyThatStays kv kv).run P w = .ok kv w
theorem qh (hT : T.Ok P) {kt : Nat} {key : A1} {kv : Value} (hk : jW T kt key = true) (hr : R1 B w I key kv) : KeyFine P w kt kv := by
 cases key with
 | c x =>
   obtain ⟨d, h1, h2⟩ := yO hT hk hr;exact ⟨fun e => MapKept.run_checkKey h1 h2 e 9999, MapKept.run_keyThatStays h2⟩
 | agg xs =>
   obtain ⟨us, rfl, hu⟩ := hr;simp only [jW] at hk;split at hk
   ·rename_i l hl;rw [Bool.and_eq_true] at hk;obtain ⟨h1, h2, ⟨fs, hfs, hfl⟩, -⟩ := hT.seq _ _ hl;have key := fun e => CQ (P := P) hT e 9998 fs.toList l 0 us xs hfl hk.1 hu hk.2
    refine ⟨fun e => ?_, ?_⟩
    ·have k1 := (key e).1;unfold Instr.checkKey;simp only [Sem.run_bind, run_underlying hfs, Result.andThen_ok, ← Array.forIn_toList];rw [k1];rfl
    ·have k2 := (key false).2;have : Instr.sameBits 10000 (.agg us.toArray) (.agg us.toArray) = true := by
      simp only [Instr.sameBits, beq_self_eq_true, Bool.true_and, List.all_eq_true];rintro ⟨a, b⟩ hab;have hz : ∀ (l : List Value), (a, b) ∈ l.zip l → a = b ∧ a ∈ l := fun l => by
       induction l with
       | nil => intro h; simp at h
       | cons c l ih =>
         intro h;rw [List.zip_cons_cons] at h;rcases List.mem_cons.1 h with h | h
         ·cases h; exact ⟨rfl, by simp⟩
         ·exact ⟨(ih h).1, List.mem_cons_of_mem _ (ih h).2⟩
      obtain ⟨rfl, hm⟩ := hz _ hab;exact k2 _ a (by simpa using hm)
     simp [Instr.keyThatStays, this]
   ·cases hk
 | _ => cases hk
theorem xR (hT : T.Ok P) {kt : Nat} {d : TypeDesc} {key : A1} {kv : Value} (hna : ∀ xs, key ≠ .agg xs) (hd : P.underlying kt = some d) (hk : jW T kt key = true) (hr : R1 B w I key kv) :
 ∀ {ents : List (A1 × A1)} {es : List MapEntry} (i : Nat) {r : Option (Nat × A1)}, REs B w I ents es → gu key ents = some r →
   (r = none ∧ Instr.findNow d kv es i = some none) ∨ ∃ q v e k', r = some (q, v) ∧ Instr.findNow d kv es i = some (some (i + q, e.val)) ∧ es[q]? = some e ∧ ents[q]? = some (k', v) ∧ e.key = kv ∧ R1 B w I v e.val
 | [], [], i, r, _, h => by
   exact Vr
 | [], _ :: _, i, r, hR, _ => hR.elim
 | _ :: _, [], i, r, hR, _ => hR.elim
 | p :: ents, e :: es, i, r, hR, h => by
   have key1 : ∀ b, vN key p.1 = some b → Instr.sameNow d kv e.key = some b ∧ (b = true → e.key = kv) := fun b hb => by
    have h1 := hR.1.1;unfold vN at hb;split at hb
    ·rename_i e1 e2 k a k' a' hp;rw [hp] at h1;have hr : RC w I kv (.int k a) := hr;have h1 : RC w I e.key (.int k' a') := h1;split at hb
     ·rename_i hkk;subst hkk;cases hb
      obtain ⟨rfl, -⟩ := hr.toInt;obtain ⟨h1, -⟩ := h1.toInt;rw [h1];simp only [jW] at hk;split at hk
      ·rename_i k' hk';have : k = k' := of_decide_eq_true hk;subst this;rw [hT.int _ _ hk'] at hd;cases hd
       refine ⟨by simp [Instr.sameNow, BEq.beq], fun hb => ?_⟩;rw [of_decide_eq_true hb]
      ·cases hk
     ·cases hb
    ·rename_i e1 e2 a a' hp;rw [hp] at h1;have hr : RC w I kv (.str a) := hr;have h1 : RC w I e.key (.str a') := h1;cases hb
     obtain ⟨rfl, -⟩ := hr.toStr;obtain ⟨h1, -⟩ := h1.toStr;rw [h1];rw [hT.str _ hk] at hd;cases hd
     refine ⟨by simp [Instr.sameNow, beq_toListBytes], fun hb => ?_⟩;have : a.toList = a'.toList := eq_of_beq hb;rw [show a = a' from by
      rw [ByteArray.toList_eq, ByteArray.toList_eq] at this;obtain ⟨⟨x⟩⟩ := a; obtain ⟨⟨y⟩⟩ := a';simp at this; rw [this]]
    ·exact absurd rfl (hna _)
    ·cases hb
   simp only [gu] at h;split at h
   ·rename_i hb;cases h
    obtain ⟨k1, k2⟩ := key1 _ hb;refine .inr ⟨0, p.2, e, p.1, rfl, by simp [Instr.findNow, k1], rfl, rfl, k2 rfl, hR.1.2⟩
   ·rename_i hb;obtain ⟨k1, -⟩ := key1 _ hb;split at h
    ·rename_i q v hf;cases h
     rcases xR hT hna hd hk hr (i + 1) hR.2 hf with ⟨e1, -⟩ | ⟨q', v', e', k', e1, e2, e3, e4, e5, e6⟩
     ·cases e1
     ·cases e1
      exact .inr ⟨q + 1, v, e', k', rfl, by simp only [Instr.findNow, k1, e2]; congr 3; omega, by simpa using e3, by simpa using e4, e5, e6⟩
    ·rename_i hf;cases h
     rcases xR hT hna hd hk hr (i + 1) hR.2 hf with ⟨-, e2⟩ | ⟨q', v', e', k', e1, -⟩
     ·exact .inl ⟨rfl, by simp only [Instr.findNow, k1, e2]⟩
     ·cases e1
    ·cases h
   ·cases h
theorem Av (hT : T.Ok P) {kt : Nat} {l : List (Nat × Nat)} {xs : List C} {us : List Value} (hl : T.seq kt = some l) (ho : Ci 0 l = true) (hk : nH T l xs = true) (hr : RCs w I us xs) :
 ∀ {ents : List (A1 × A1)} {es : List MapEntry} (i : Nat) {r : Option (Nat × A1)}, REs B w I ents es → gu (.agg xs) ents = some r →
   (r = none ∧ (Instr.findAsking kt (.agg us.toArray) es i).run P w = .ok none w) ∨ ∃ q v e k', r = some (q, v) ∧ (Instr.findAsking kt (.agg us.toArray) es i).run P w = .ok (some (i + q, e.val)) w ∧ es[q]? = some e ∧ ents[q]? = some (k', v) ∧ e.key = .agg us.toArray ∧ R1 B w I v e.val
 | [], [], i, r, _, h => by
   exact Vr
 | [], _ :: _, i, r, hR, _ => hR.elim
 | _ :: _, [], i, r, hR, _ => hR.elim
 | p :: ents, e :: es, i, r, hR, h => by
   have key1 : ∀ b, vN (.agg xs) p.1 = some b → (Op.equal kt (.agg us.toArray) e.key).run P w = .ok b w ∧ (b = true → e.key = .agg us.toArray) := fun b hb => by
    have h1 := hR.1.1;cases hp : p.1 with
    | agg ys =>
      rw [hp] at h1 hb;obtain ⟨vs, hv, hvs⟩ := h1;have hb : rR xs ys = some b := hb;obtain ⟨g1, g2, ⟨fs, hfs, hfl⟩, -⟩ := hT.seq _ _ hl;have hfo : P.fieldsOf kt = fs := by simp [Program.fieldsOf, hfs]
      refine ⟨?_, fun hbt => ?_⟩
      ·rw [hv];show (Op.equalIn (9999 + 1) kt _ _).run P w = _;rw [run_equalIn_struct w 9999 kt _ _ (by rw [hfo]; exact hfs) g1, hfo];exact Br hT 9998 _ l 0 us vs xs ys b hfl ho hr hvs (EJ hk hb)
      ·subst hbt;rw [hv, Gr hr hvs hb]
    | _ => rw [hp] at hb; cases hb
   simp only [gu] at h;split at h
   ·rename_i hb;cases h
    obtain ⟨k1, k2⟩ := key1 _ hb;refine .inr ⟨0, p.2, e, p.1, rfl, by simp [Instr.findAsking, k1], rfl, rfl, k2 rfl, hR.1.2⟩
   ·rename_i hb;obtain ⟨k1, -⟩ := key1 _ hb;split at h
    ·rename_i q v hf;cases h
     rcases Av hT hl ho hk hr (i + 1) hR.2 hf with ⟨e1, -⟩ | ⟨q', v', e', k', e1, e2, e3, e4, e5, e6⟩
     ·cases e1
     ·cases e1
      refine .inr ⟨q + 1, v, e', k', rfl, ?_, by simpa using e3, by simpa using e4, e5, e6⟩;simp only [Instr.findAsking, Sem.run_bind, k1, Result.andThen_ok, Bool.false_eq_true, if_false, e2]
      congr 3; omega
    ·rename_i hf;cases h
     rcases Av hT hl ho hk hr (i + 1) hR.2 hf with ⟨-, e2⟩ | ⟨q', v', e', k', e1, -⟩
     ·exact .inl ⟨rfl, by simp only [Instr.findAsking, Sem.run_bind, k1, Result.andThen_ok, Bool.false_eq_true, if_false, e2]⟩
     ·cases e1
    ·cases h
   ·cases h
theorem lC (hT : T.Ok P) {kt : Nat} {key : A1} {kv : Value} (hk : jW T kt key = true) (hr : R1 B w I key kv) {ents : List (A1 × A1)} {es : List MapEntry} {r : Option (Nat × A1)} (hR : REs B w I ents es) (hf : gu key ents = some r) :
 (r = none ∧ (Instr.findKey kt kv es).run P w = .ok none w) ∨ ∃ q v e k', r = some (q, v) ∧ (Instr.findKey kt kv es).run P w = .ok (some (q, e.val)) w ∧ es[q]? = some e ∧ ents[q]? = some (k', v) ∧ e.key = kv ∧ R1 B w I v e.val := by
 cases key with
 | c x =>
   obtain ⟨d, h1, h2⟩ := yO hT hk hr;rcases xR hT (fun xs h => by cases h) h1 hk hr 0 hR hf with ⟨e1, e2⟩ | ⟨q, v, e, k', e1, e2, e3⟩
   ·exact .inl ⟨e1, MapKept.run_findKey h1 e2⟩
   ·exact .inr ⟨q, v, e, k', e1, MapKept.run_findKey h1 (by simpa using e2), e3⟩
 | agg xs =>
   obtain ⟨us, rfl, hu⟩ := hr;simp only [jW] at hk;split at hk
   ·rename_i l hl;rw [Bool.and_eq_true] at hk;obtain ⟨-, -, ⟨fs, hfs, -⟩, -⟩ := hT.seq _ _ hl;have hrun : (Instr.findKey kt (.agg us.toArray) es).run P w = (Instr.findAsking kt (.agg us.toArray) es).run P w := by
     cases es with
     | nil => simp [Instr.findKey, run_underlying hfs, Instr.findNow, Instr.findAsking]
     | cons e es => simp [Instr.findKey, run_underlying hfs, Instr.findNow, Instr.sameNow]
    rw [hrun];rcases Av hT hl hk.1 hk.2 hu 0 hR hf with ⟨e1, e2⟩ | ⟨q, v, e, k', e1, e2, e3⟩
    ·exact .inl ⟨e1, e2⟩
    ·exact .inr ⟨q, v, e, k', e1, by simpa using e2, e3⟩
   ·cases hk
 | _ => cases hk
def Cn (es : List MapEntry) : List (A1 × A1) := es.map fun e => (.c (match e.key with | .string s => .str s | _ => .bool false), .c (.int .i64 1))
theorem CW {es : List MapEntry} (h : ∀ e ∈ es, ∃ s : ByteArray, e.key = .string s ∧ s.size ≤ gP ∧ e.val = .int .i64 1) : REs B w I (Cn es) es := by
 induction es with
 | nil => trivial
 | cons e es ih =>
   obtain ⟨s, h1, h2, h3⟩ := h e (by simp);refine ⟨⟨?_, ?_⟩, ih fun e he => h e (List.mem_cons_of_mem _ he)⟩
   ·show RC w I e.key _;rw [h1]; exact .str h2
   ·show RC w I e.val _;rw [h3]; exact .int (by decide)
theorem Vw {es : List MapEntry} (h : ∀ e ∈ es, ∃ s : ByteArray, e.key = .string s ∧ s.size ≤ gP ∧ e.val = .int .i64 1) (s : ByteArray) :
 (gu (.c (.str s)) (Cn es) = some none ∧ ∀ e ∈ es, e.key ≠ .string s) ∨ ∃ q e, gu (.c (.str s)) (Cn es) = some (some (q, .c (.int .i64 1))) ∧ es[q]? = some e ∧ e.key = .string s := by
 induction es with
 | nil => exact .inl ⟨rfl, fun e he => by cases he⟩
 | cons e es ih =>
   obtain ⟨t, h1, h2, h3⟩ := h e (by simp);have hk : ∀ es, gu (.c (.str s)) (Cn (e :: es)) = match some (s.toList == t.toList) with
    | some true => some (some (0, .c (.int .i64 1)))
    | some false => (match gu (.c (.str s)) (Cn es) with | some (some (i, v)) => some (some (i + 1, v)) | some none => some none | none => none)
    | none => none := fun es => by
    show gu _ ((A1.c (match e.key with | .string s => .str s | _ => .bool false), A1.c (.int .i64 1)) :: Cn es) = _
    rw [h1]; rfl
   by_cases hst : s = t
   ·subst hst;exact .inr ⟨0, e, by rw [hk]; simp, rfl, h1⟩
   ·have hb : (s.toList == t.toList) = false := by
     rw [ByteArray.toList_eq, ByteArray.toList_eq];exact beq_eq_false_iff_ne.2 fun e => hst (WideShapes.bytes_inj e)
    rcases ih fun e he => h e (List.mem_cons_of_mem _ he) with ⟨i1, i2⟩ | ⟨q, e', i1, i2, i3⟩
    ·refine .inl ⟨by rw [hk, hb, i1], fun x hx => ?_⟩;rcases List.mem_cons.1 hx with rfl | hx
     ·rw [h1]; exact fun e => hst (Value.string.inj e).symm
     ·exact i2 x hx
    ·exact .inr ⟨q + 1, e', by rw [hk, hb, i1], by simpa using i2, i3⟩
theorem xS (hT : T.Ok P) (hm : MR w0 I0 B I mem w) {t : Nat} {z : A1} (h : yu T t = some z) : ∃ v, (zeroValue t).run P w = .ok v w ∧ R1 B w I z v ∧ z.ids = [] := by
 unfold yu at h;split at h
 ·rename_i v hv;obtain ⟨i, hi, hz, h1⟩ := hT.one _ _ hv;refine ⟨v, by simp [zeroValue, typeInfo, hi, hz], kU h (ig (B := B) (w := w) (I := I) (vs := [v]) DJ).1.1, ?_⟩;exact Tg
 ·split at h
  ·rename_i v1 v2 vs hz;split at h
   ·rename_i xs hx;cases h
    obtain ⟨i, z, hi, hz3, hzc, hz1⟩ := hT.zero _ _ hz;have : z = .agg (v1 :: v2 :: vs).toArray := by
     cases z <;> simp [Value.cells] at hzc
     exact congrArg _ hzc
    subst this;exact ⟨_, by simp [zeroValue, typeInfo, hi, hz3], ⟨_, rfl, vH hm hz1 hx⟩, rfl⟩
   ·cases h
  ·cases h
theorem GI {a : A} {k : A1} {v : Value} (h : toKey a = some k) (hv : RV B w I a v) : R1 B w I k v ∧ k.ids = [] := by
 unfold toKey at h;split at h <;> cases h
 ·exact ⟨hv, rfl⟩
 ·exact ⟨hv, rfl⟩
 ·exact ⟨hv, rfl⟩
theorem uH {ok b : Bool} {z : A1} {v : Value} (h : R1 B w I z v) : RV B w I (nL ok z b) (if ok = true then .tuple #[v, .bool b] else v) := by
 unfold nL;split
 ·exact ⟨[v, .bool b], rfl, h, .bool, trivial⟩
 ·exact F4.2 h
theorem lq {ok b : Bool} {z : A1} : ∀ j ∈ (nL ok z b).ids, j ∈ z.ids := by
 intro j hj;unfold nL at hj;split at hj
 ·simpa [A.ids, A1.ids] using hj
 ·rwa [xQ] at hj
theorem R1s.append {xs ys : List A1} {vs us : List Value} (h : R1s B w I xs vs) (k : R1s B w I ys us) : R1s B w I (xs ++ ys) (vs ++ us) := by
 induction xs generalizing vs with
 | nil => cases vs with | nil => exact k | cons _ _ => exact h.elim
 | cons x xs ih => cases vs with | nil => exact h.elim | cons v vs => exact ⟨h.1, ih h.2⟩
theorem Mi {a : A} {v : Value} {ys : List A1} (h : wF a = some ys) (hv : RV B w I a v) : R1s B w I ys v.cells.toList ∧ ∀ u ∈ v.cells.toList, u.oneCell' = true := by
 unfold wF at h;split at h
 ·rename_i l hl;exact oC h (qd hl hv)
 ·cases h
theorem Dm {ρ : Operand → Value} {s : Nat → A} (hev : ∀ x, RV B w I (ev s x) (ρ x)) {place : Nat → Option (Nat × Nat)} :
 ∀ (l : List (Nat × Operand)) (cs : List Value) (xs r : List A1), R1s B w I xs cs → (∀ v ∈ cs, v.oneCell' = true) → rF place xs (l.map fun p => (p.1, wF (ev s p.2))) = some r →
   ∃ us, Instr.fill place cs.toArray (l.map fun p => (p.1, ρ p.2)) = some us.toArray ∧ R1s B w I r us ∧ (∀ v ∈ us, v.oneCell' = true) ∧ us.length = cs.length
 | [], cs, xs, r, hc, h1, hf => by simp [rF] at hf; subst hf; exact ⟨cs, rfl, hc, h1, rfl⟩
 | (i, x) :: l, cs, xs, r, hc, h1, hf => by
   simp only [List.map_cons, rF] at hf;split at hf
   ·rename_i o n ys hp hy;split at hf
    ·rename_i hh;obtain ⟨hv, hv1⟩ := Mi hy (hev x);have hvl := hv.length;have hcl := hc.length;have hsz : (ρ x).cells.size = n := by rw [← Array.length_toList, ← hvl]; exact hh.1
     obtain ⟨us, g1, g2, g3, g4⟩ := Dm hev l (cs.take o ++ ((ρ x).cells.toList ++ cs.drop (o + n))) _ r ((R1s.take o hc).append (hv.append (R1s.drop _ hc))) (fun v hv' => by
      rw [List.mem_append, List.mem_append] at hv';rcases hv' with q | q | q
      ·exact h1 v (List.mem_of_mem_take q)
      ·exact hv1 v q
      ·exact h1 v (List.mem_of_mem_drop q)) hf
     refine ⟨us, ?_, g2, g3, ?_⟩
     ·simp only [List.map_cons, Instr.fill, hp];rw [if_neg Kt];have hfold := GL (ρ x).cells.toList 0 o cs Kt;simp only [Nat.add_zero, Array.length_toList, hsz] at hfold;have e : (ρ x).cells.zipIdx.foldl (fun cs (p : Value × Nat) => cs.setIfInBounds (o + p.2) p.1) cs.toArray = (cs.take o ++ ((ρ x).cells.toList ++ cs.drop (o + n))).toArray := by
       exact Uf
      rw [← g1, ← e]
     ·rw [g4]; simp [hsz]; omega
    ·cases hf
   ·cases hf
theorem xV {place : Nat → Option (Nat × Nat)} {Q : Nat → Prop} : ∀ (l : List (Nat × Option (List A1))) (xs r : List A1), (∀ j ∈ xs.flatMap A1.ids, Q j) → (∀ p ∈ l, ∀ ys, p.2 = some ys → ∀ j ∈ ys.flatMap A1.ids, Q j) → rF place xs l = some r → ∀ j ∈ r.flatMap A1.ids, Q j
 | [], xs, r, h1, _, hf => by simp [rF] at hf; subst hf; exact h1
 | (i, v) :: l, xs, r, h1, h2, hf => by
   simp only [rF] at hf;split at hf
   ·rename_i o n ys hp;split at hf
    ·refine xV l _ r (fun j hj => ?_) (fun p hp => h2 p (List.mem_cons_of_mem _ hp)) hf;rw [List.flatMap_append, List.flatMap_append, List.mem_append, List.mem_append] at hj;rcases hj with q | q | q
     ·obtain ⟨a, ha, hb⟩ := List.mem_flatMap.1 q;exact h1 j (List.mem_flatMap.2 ⟨a, List.mem_of_mem_take ha, hb⟩)
     ·exact h2 _ (List.mem_cons_self ..) ys rfl j q
     ·obtain ⟨a, ha, hb⟩ := List.mem_flatMap.1 q;exact h1 j (List.mem_flatMap.2 ⟨a, List.mem_of_mem_drop ha, hb⟩)
    ·cases hf
   ·cases hf
theorem DN {a : A} {ys : List A1} (h : wF a = some ys) : ∀ j ∈ ys.flatMap A1.ids, j ∈ a.ids := by
 unfold wF at h;split at h
 ·rename_i l hl;exact fun j hj => mJ hl j (mg h j hj)
 ·cases h
theorem BF : ∀ {zs : List Value} {z1 : List A1}, oQ (zs.map ofConst) = some z1 → ∀ j ∈ z1.flatMap A1.ids, False := by
 intro zs z1 h j hj;have := mg h j hj;obtain ⟨a, ha, hb⟩ := List.mem_flatMap.1 this;obtain ⟨v, -, rfl⟩ := List.mem_map.1 ha;rw [iH] at hb;cases hb
theorem Qu (hT : T.Ok P) {s : Nat → A} {a : Act} {id : Nat} {r : A} {ob : Option O} {o : Oper} (hm : MR w0 I0 B I mem w) (hs : ∀ t, RV B w I (s t) (a.tmps.getD t undef)) (hl : ∀ t, ∀ j ∈ (s t).ids, (mem j).isSome = true)
 (hid : ob.isSome = true → mem id = none) (hq : qv2 T s mem id o.op = some (r, ob)) :
 ∃ v w' B' I', (execOp a.eval o).run P w = .ok (.value v) w' ∧ MR w0 I0 B' I' (mem.put id ob) w' ∧ Below w.heap.size w w' ∧ (∀ b p, I b p → I' b p) ∧ (∀ j, (mem j).isSome = true → B' j = B j) ∧ RV B' w' I' r v ∧
   ∀ j ∈ r.ids, (mem.put id ob j).isSome = true := by
 have hev : ∀ x, RV B w I (ev s x) (a.eval x) := gM hs
 have hel : ∀ x, ∀ j ∈ (ev s x).ids, (mem j).isSome = true := uq hl
 have same : ∀ {v : Value} {r : A}, (execOp a.eval o).run P w = .ok (.value v) w → RV B w I r v → (∀ j ∈ r.ids, (mem j).isSome = true) → 
  ∃ v w' B' I', (execOp a.eval o).run P w = .ok (.value v) w' ∧ MR w0 I0 B' I' mem w' ∧ Below w.heap.size w w' ∧ (∀ b p, I b p → I' b p) ∧ (∀ j, (mem j).isSome = true → B' j = B j) ∧ RV B' w' I' r v ∧ ∀ j ∈ r.ids, (mem j).isSome = true :=
  fun h1 h2 h3 => ⟨_, w, B, I, h1, hm, Below.refl _ _, fun _ _ h => h, fun _ _ => rfl, h2, h3⟩
 have new : ∀ {z : O} {v : Value} {x : Obj} {r : A}, mem id = none → (execOp a.eval o).run P w = .ok (.value v) (w.alloc x) → RO (upd B id v) (w.alloc x) I id z → (∀ k, foot (upd B id v) id z k → k = w.heap.size) → (∀ j ∈ z.ids, (mem j).isSome = true) → RV (upd B id v) (w.alloc x) I r v → r.ids = [id] →
  ∃ v w' B' I', (execOp a.eval o).run P w = .ok (.value v) w' ∧ MR w0 I0 B' I' (upd mem id (some z)) w' ∧ Below w.heap.size w w' ∧ (∀ b p, I b p → I' b p) ∧ (∀ j, (mem j).isSome = true → B' j = B j) ∧ RV B' w' I' r v ∧ ∀ j ∈ r.ids, (upd mem id (some z) j).isSome = true :=
  fun hid h1 h2 h3 h4 h5 h6 => ⟨_, _, _, I, h1, hm.alloc hid h2 h3 h4, (Below.refl _ _).alloc (Nat.le_refl _) _, fun _ _ h => h, fun j hj => upd_ne _ _ (fun e => by subst e; simp [hid] at hj), h5,
   fun j hj => by rw [h6] at hj; simp at hj; subst hj; simp [upd_same]⟩
 cases hop : o.op with
 | buildSlice ty len parts =>
   simp only [hop, qv2] at hq;split at hq
   ·split at hq
    ·rename_i e n he;split at hq
     ·rename_i zs hz;split at hq
      ·rename_i hh;split at hq
       ·rename_i xs hf;cases hq
        obtain ⟨us, hrun, h3, h4, hn0⟩ := QS hT (a := a) hm hev he hz hh hf;have hb' : Below w.heap.size w (w.alloc (.cells us.toArray e)) := (Below.refl _ _).alloc (Nat.le_refl _) _;have hE := hm.ext hb' (fun _ _ k => k);have hlen : xs.length = len * n := by rw [← h3.length, h4]
        have hml : len ≤ maxLen := by unfold maxLen; have : len * 1 ≤ len * n := Nat.mul_le_mul_left _ hn0; omega
        have hfl : flat (chunks n len xs) = xs := by
         have key : ∀ (k : Nat) (ys : List C), ys.length = k * n → flat (chunks n k ys) = ys := by
          intro k;induction k with
          | zero => intro ys hy; rw [Nat.zero_mul] at hy; rw [List.length_eq_zero_iff.1 hy]; rfl
          | succ k ih =>
            intro ys hy;rw [Nat.add_mul, Nat.one_mul] at hy;have := ih (ys.drop n) N7;simp only [flat, chunks, List.flatten_cons] at this ⊢;rw [this, List.take_append_drop]
         exact key len xs hlen
        have hcl : ∀ x ∈ chunks n len xs, x.length = n := by
         have key : ∀ (k : Nat) (ys : List C), ys.length = k * n → ∀ x ∈ chunks n k ys, x.length = n := by
          intro k;induction k with
          | zero => intro ys _ x hx; simp [chunks] at hx
          | succ k ih =>
            intro ys hy x hx;rw [Nat.add_mul, Nat.one_mul] at hy;rw [chunks, List.mem_cons] at hx;rcases hx with rfl | hx
            ·rw [List.length_take]; omega
            ·exact ih (ys.drop n) N7 x hx
         exact key len xs hlen
        have hcn : (chunks n len xs).length = len := by simp [rY]
        refine new (hid rfl) (x := .cells us.toArray e) (v := .slice (some ⟨w.heap.size, 0, none⟩) len len) ?_ ⟨us, ?_, ?_, hcl, fun b hb o ho => ?_⟩ (fun k hk => ?_) (fun j hj => by simp [O.ids] at hj) ⟨(upd_same ..).symm, _, _, _, rfl⟩ rfl
        ·simp only [execOp, hop];rw [Sem.run_bind, hrun]; rfl
        ·rw [upd_same, hcn];exact ⟨h4, .inr ⟨w.heap.size, 0, len, _, rfl, heap_alloc_new _ _, Nat.le_refl _, hml, by simp [h4], by show List.take _ us = _; exact List.take_of_length_le (by rw [h4]; exact Nat.le_refl _)⟩⟩
        ·rw [hfl]; exact h3.mono hE
        ·exact VB
        ·have hk' : (upd B id (Value.slice (some ⟨w.heap.size, 0, none⟩) len len) id).ownBlock = some k := hk;exact TB
       ·cases hq
      ·cases hq
     ·cases hq
    ·cases hq
   ·cases hq
 | build ty parts =>
   simp only [hop, qv2] at hq;split at hq
   ·rename_i l vs hl0 hvs;split at hq
    ·rename_i z1 hz;split at hq
     ·rename_i xs hf;cases hq
      obtain ⟨fs, hu, hfs⟩ := hT.fields ty l hl0;obtain ⟨i, z, hi, hzz, hc, h1⟩ := hT.zero ty vs hvs;obtain ⟨hr1, -⟩ := oC (B := B) (w := w) (I := I) hz (ig h1);obtain ⟨us, h2, h3, h4, -⟩ := Dm hev parts.toList vs z1 xs hr1 h1 hf;refine same (v := .agg us.toArray) ?_ ⟨_, rfl, h3, h4⟩ (fun j hj => ?_)
      ·exact zt6
      ·refine xV (Q := fun j => (mem j).isSome = true) _ z1 xs (fun j hj => (BF hz j hj).elim) (fun p hp ys hy j hj => ?_) hf j hj;obtain ⟨q, -, rfl⟩ := List.mem_map.1 hp;exact hel q.2 j (DN hy j hj)
     ·cases hq
    ·cases hq
   ·cases hq
 | load ty x =>
   simp only [hop, qv2] at hq;have hx := hev x;split at hq
   ·rename_i j e i f ex;rw [ex] at hx;obtain ⟨b, off, n, cap, hB, hv⟩ := hx;split at hq
    ·rename_i ty' e' xs hj;split at hq
     ·rename_i hee;subst hee;split at hq
      ·rename_i cs hcs;split at hq
       ·rename_i r' e3;cases hq
        obtain ⟨vs, hrow, hvs, hlx, -⟩ := hm.objs j _ hj;have hcl := hlx cs (List.mem_of_getElem? hcs);have hfl : flat xs = flat xs := rfl;have key : RCs w I ((vs.drop (i * e')).take e') cs := by
         have hfl := kW hlx;have hle : i * e' + e' ≤ xs.length * e' := by
          have := (List.getElem?_eq_some_iff.1 hcs).1;have := Nat.mul_le_mul_right e' (show i + 1 ≤ xs.length from this);exact Ot
         have hvl := hvs.length;refine RCs.of (by simp [hcl]; omega) fun q v x hq hx => ?_;rw [List.getElem?_take] at hq;split at hq
         ·rename_i hqe;rw [List.getElem?_drop] at hq;obtain ⟨v', hv1, hv2⟩ := hvs.at (i * e' + q) x (by rw [kT hlx i q cs hcs hqe]; exact hx);rw [hq] at hv1; cases hv1; exact hv2
         ·cases hq
        have hcell : ∀ (q : Nat) v, (((vs.drop (i * e')).take e').drop f)[q]? = some v → w.cell? ⟨b, off + i * e' + f + q, none⟩ = some v := fun q v hq => by
         rw [List.getElem?_drop, List.getElem?_take] at hq;split at hq
         ·rw [List.getElem?_drop] at hq;have := hrow.cell (hB.trans (by
           obtain ⟨ad, cp, e5, -⟩ := hrow.shape;rw [hB] at e5; cases e5; rfl)) hq
          rw [← this]; congr 2; omega
         ·cases hq
        have hvd := key.drop f;unfold ldR at e3;split at e3
        ·rename_i n' hty;split at e3
         ·rename_i hn';cases e3
          have hlen := hvd.length;refine same (v := .agg ((((vs.drop (i * e')).take e').drop f).take n').toArray) ?_ ⟨_, rfl, hvd.take n'⟩ (fun j hj => by simp [A.ids] at hj);simp only [execOp, hop, hv, Instr.loadAt, Instr.sureAddr, Sem.run_bind, Sem.run_pure, Result.andThen_ok];rw [lV hT hty (b := b) (off := off + i * e' + f) (cs := (((vs.drop (i * e')).take e').drop f).take n') Ah (fun k v hk => ?_)]
          ·rfl
          ·exact SY
         ·cases e3
        ·rename_i n' hty;split at e3
         ·rename_i y ys hys;cases e3
          rw [hys] at hvd;cases hus : ((vs.drop (i * e')).take e').drop f with
          | nil => rw [hus] at hvd; exact hvd.elim
          | cons u us =>
            rw [hus] at hvd;have hc0 : w.cell? ⟨b, off + i * e' + f, none⟩ = some u := by have := hcell 0 u (by rw [hus]; rfl); simpa using this
            refine same (v := u) ?_ hvd.1 (fun j hj => by simp [A.ids] at hj);exact Vi
         ·cases e3
        ·cases e3
       ·cases hq
      ·cases hq
     ·cases hq
    ·rename_i ty' xs hj;split at hq
     ·rename_i hee;obtain ⟨rfl, rfl⟩ := hee;split at hq
      ·rename_i n' y hty hy;cases hq
       obtain ⟨vs, hrow, hvs, h1, -⟩ := hm.objs j _ hj;obtain ⟨u, hu1, hu2⟩ := hvs.at i y hy;have hc0 : w.cell? ⟨b, off + i * 1 + 0, none⟩ = some u := by
        have := hrow.cell (hB.trans (by
         obtain ⟨ad, cp, e5, -⟩ := hrow.shape;rw [hB] at e5; cases e5; rfl)) hu1
        simpa using this
       refine same (v := u) ?_ (F4.2 hu2) (Qa hm hj hy);exact Vi
      ·cases hq
     ·cases hq
    ·cases hq
   ·cases hq
 | fieldAddr ty x f =>
   simp only [hop, qv2] at hq;have hx := hev x;split at hq
   ·rename_i o' n g j e i g' ho ex;cases hq
    rw [ex] at hx;obtain ⟨b, off, n', cap, hB, hv⟩ := hx;refine same (v := .pointer (some ⟨b, off + i * e + g' + o', none⟩)) ?_ ⟨b, off, n', cap, hB, by rw [Nat.add_assoc (off + i * e)]⟩ (fun i' hi => hel x i' Qg);simp only [execOp, hop, hv, Sem.run_bind];rw [nZ hT ho];rfl
   ·cases hq
 | field ty x f =>
   simp only [hop, qv2] at hq;have hx := hev x;split at hq
   ·rename_i o' n xs ho ex;cases hq
    rw [ex] at hx;obtain ⟨vs, h2, hv, h1⟩ := hx;refine same (v := .agg ((vs.drop o').take n).toArray) ?_ ⟨_, rfl, (hv.drop o').take n, fun u hu => h1 u (List.mem_of_mem_drop (List.mem_of_mem_take hu))⟩ (fun i hi => ?_)
    ·exact OC
    ·obtain ⟨y, hy1, hy2⟩ := List.mem_flatMap.1 hi;exact hel x i ZW
   ·rename_i o' n xs ho ex;rw [ex] at hx;obtain ⟨vs, h2, hv, h1⟩ := hx;split at hq
    ·rename_i y hy;cases hq
     obtain ⟨v, hv1, hv2⟩ := hv.at o' y hy;refine same (v := v) ?_ (F4.2 hv2) (fun i hi => hel x i Zx);exact Wn
    ·cases hq
   ·cases hq
 | indexAddr ty x i =>
   simp only [hop, qv2] at hq;have hx := hev x;have hi := hev i;split at hq
   ·rename_i et n j k kn he ex ei;rw [ex] at hx;rw [ei] at hi;have hkv : a.eval i = .int k kn := (RC.toInt hi).1;split at hq
    ·rename_i ty' e xs hj;split at hq
     ·rename_i hc;obtain ⟨rfl, h0, hlt⟩ := hc;cases hq
      obtain ⟨vs, hrow, -⟩ := hm.objs j _ hj;obtain ⟨b, off, cap, hB, hnc, -⟩ := hrow.addr (by omega);have hxv : a.eval x = .slice (some ⟨b, off, none⟩) xs.length cap := hx.1.trans hB;refine same (v := .pointer (some ⟨b, off + kn.toNat * e, none⟩)) ?_ ⟨b, off, _, cap, hB, rfl⟩ (fun i' hi' => hel x i' Nt);exact zR
     ·cases hq
    ·rename_i ty' xs hj;split at hq
     ·rename_i hc;obtain ⟨rfl, h0, hlt⟩ := hc;cases hq
      obtain ⟨vs, hrow, -⟩ := hm.objs j _ hj;obtain ⟨b, off, cap, hB, hnc, -⟩ := hrow.addr (by omega);have hxv : a.eval x = .slice (some ⟨b, off, none⟩) xs.length cap := hx.1.trans hB;refine same (v := .pointer (some ⟨b, off + kn.toNat * 1, none⟩)) ?_ ⟨b, off, _, cap, hB, rfl⟩ (fun i' hi' => hel x i' Nt);exact zR
     ·cases hq
    ·cases hq
   ·cases hq
 | nilCheck x =>
   simp only [hop, qv2] at hq;have hx := hev x;split at hq
   ·rename_i j e i f ex;cases hq
    rw [ex] at hx;obtain ⟨b, off, n, cap, hB, hv⟩ := hx;exact same (v := a.eval x) NI ⟨b, off, n, cap, hB, hv⟩ (fun i' hi => hel x i' Qg)
   ·rename_i j ex;cases hq
    rw [ex] at hx;obtain ⟨h1, q, hv⟩ := hx;exact same (v := a.eval x) NI ⟨h1, q, hv⟩ (fun i' hi => hel x i' Qg)
   ·rename_i f caps ex;cases hq
    rw [ex] at hx;obtain ⟨ps, hv, h1⟩ := hx;exact same (v := a.eval x) NI ⟨ps, hv, h1⟩ (fun i' hi => by simp [A.ids] at hi)
   ·cases hq
 | slice ty x lo hi mx =>
   cases mx with
   | some _ => simp [hop, qv2] at hq
   | none =>
     simp only [hop, qv2] at hq;have hx := hev x;split at hq
     ·rename_i et n j he ex;rw [ex] at hx;split at hq
      ·rename_i ty' e xs hj;split at hq
       ·rename_i hee;subst hee;split at hq
        ·rename_i l h hlo hhi;split at hq
         ·rename_i hlh;cases hq
          obtain ⟨vs, hrow, -⟩ := hm.objs j _ hj;obtain ⟨ad, cap, hB, hnc⟩ := hrow.shape;obtain ⟨hu, -, i', hi', hn'⟩ := hT.elem _ _ _ he;have hxv : a.eval x = .slice ad xs.length cap := hx.1.trans hB;refine same (v := .slice (if cap = l then ad else ad.map (·.add (l * e))) (h - l) (cap - l)) ?_ ⟨ad, _, cap, hB, hlh.1, by omega, rfl⟩ (fun i' hi' => hel x i' Nt);have bl := rX (P := P) (w := w) (y := h) (code := .sliceB) hev hlo hlh.1;have bh : ∀ code, (match hi.map a.eval with | some v => Instr.sliceBound v cap code | none => pure xs.length : Sem Nat).run P w = .ok h w := fun code => rX hev hhi (by omega)
          simp only [execOp, hop, hxv, Instr.sliceAt, Sem.run_bind, run_underlying hu, Result.andThen_ok, Instr.slice, Instr.sliceBounds, Sem.run_pure, Option.isSome_none, Option.map_none];have bh' := bh .sliceAcap;have hsz : (sizeOf et).run P w = .ok e w := by simp [sizeOf, typeInfo, hi', hn']
          cases hi <;> cases lo <;> simp only [Option.map_none, Option.map_some, Sem.run_pure, Result.ok.injEq, and_true] at bl bh' ⊢
          all_goals (try subst bl)
          all_goals (try subst bh')
          all_goals simp [*]
         ·cases hq
        ·cases hq
       ·cases hq
      ·cases hq
     ·cases hq
 | makeSlice t l c =>
   simp only [hop, qv2] at hq;split at hq
   ·rename_i e n k k' he el ec;have hl' := hev l; rw [el] at hl';have hc' := hev c; rw [ec] at hc';have hlv := (RC.toInt hl').1;have hcv := (RC.toInt hc').1;split at hq
    ·rename_i b vs hb hz;split at hq
     ·rename_i hc;obtain ⟨rfl, h0, hvl, hby, h63⟩ := hc;obtain ⟨hu, hn0, i, hi, hin⟩ := hT.elem _ _ _ he;obtain ⟨i2, hi2, hib⟩ := hT.bytes _ _ hb;obtain ⟨i3, z, hi3, hz3, hzc, hz1⟩ := hT.zero _ _ hz;have e1 : i2 = i := Option.some.inj (hi2.symm.trans hi);have e2 : i3 = i := Option.some.inj (hi3.symm.trans hi);subst e1 e2;obtain ⟨m, rfl⟩ : ∃ m : Nat, k = m := ⟨k.toNat, by omega⟩;have hml : m ≤ maxLen := by unfold maxLen; omega
      have hbm : (i3.bytes : Int) * (m : Int) ≤ 281474976710656 := by
       rw [hib]
       have h : ((b * m : Nat) : Int) ≤ 281474976710656 := by rw [Nat.mul_comm]; simp only [Int.toNat_natCast] at hby; omega
       rwa [Int.natCast_mul] at h
      have hrun := run_make (P := P) w t e i3 z hu hi3 hz3 .i64 .i64 m m (by omega) (Int.le_refl _) hbm h63;simp only [Int.toNat_natCast] at hrun hby hq;have hcells : (madeCells z.cells (m * i3.size)) = ((List.replicate m vs).flatten).toArray := by
       rw [← Array.toList_inj, hzc, hin, Iy hvl hn0]
      rw [hcells] at hrun;have hex : (execOp a.eval o).run P w = .ok (.value (.slice (some ⟨w.heap.size, 0, none⟩) m m)) (w.alloc (.cells ((List.replicate m vs).flatten).toArray e)) := by
       simp only [execOp, hop, hlv, hcv];rw [Sem.run_bind, hrun]; rfl
      have hb' : Below w.heap.size w (w.alloc (.cells ((List.replicate m vs).flatten).toArray e)) := (Below.refl _ _).alloc (Nat.le_refl _) _;have hE := hm.ext hb' (fun _ _ k => k);have hlen : ((List.replicate m vs).flatten).length = m * n := gT hvl m;have hrow : ∀ {us : List Value}, us = (List.replicate m vs).flatten → rowAt (w.alloc (.cells ((List.replicate m vs).flatten).toArray e)) e n (.slice (some ⟨w.heap.size, 0, none⟩) m m) m us := fun {us} hus => by
       subst hus;exact ⟨hlen, .inr ⟨w.heap.size, 0, m, _, rfl, heap_alloc_new _ _, Nat.le_refl _, hml, by simp [hlen], by show List.take _ (List.replicate m vs).flatten = _; exact List.take_of_length_le (by rw [hlen]; exact Nat.le_refl _)⟩⟩
      split at hq
      ·rename_i hnr;cases hq
       have hvs0 : vs = [.slice none 0 0] := by
        unfold vO at hnr;split at hnr
        ·rfl
        ·cases hnr
       subst hvs0;have hn1 : n = 1 := by simpa using hvl.symm
       subst hn1;have hfl : (List.replicate m [Value.slice none 0 0]).flatten = List.replicate m (.slice none 0 0) := by
        exact TU
       refine new (hid rfl) hex ⟨List.replicate m (.slice none 0 0), ?_, R1s.rep (show R1 _ _ _ .nil _ from rfl) m, fun u hu => ?_, fun b hb o ho => ?_⟩ (fun k hk => ?_) (fun j hj => ?_) ⟨(upd_same ..).symm, _, _, _, rfl⟩ rfl
       ·exact VI
       ·rw [List.eq_of_mem_replicate hu]; rfl
       ·exact VB
       ·exact Zz
       ·obtain ⟨y, hy1, hy2⟩ := List.mem_flatMap.1 hj;exact V5
      ·rename_i hnr;split at hq
       ·rename_i zs hzs;cases hq
        have hrz := vH hm hz1 hzs;have hzl : zs.length = n := by rw [← hrz.length, hvl]
        refine new (hid rfl) hex ⟨(List.replicate m vs).flatten, ?_, ?_, fun x hx => by rw [List.eq_of_mem_replicate hx]; exact hzl, fun b hb o ho => ?_⟩ (fun k hk => ?_) (fun j hj => by simp [O.ids] at hj) ⟨(upd_same ..).symm, _, _, _, rfl⟩ rfl
        ·rw [upd_same, List.length_replicate]; exact hrow rfl
        ·exact (hrz.rep m).mono hE
        ·exact VB
        ·exact Zz
       ·split at hq
        ·rename_i v hnz;split at hq
         ·rename_i z' hz';cases hq
          have hv1 := hz1 v (by simp);have hn1 : n = 1 := by simpa using hvl.symm
          subst hn1;have hr1 : R1 B w I z' v := kU hz' (ig (B := B) (w := w) (I := I) hz1).1.1;have hfl : (List.replicate m [v]).flatten = List.replicate m v := by
           exact TU
          have hz0 : ∀ i ∈ z'.ids, i ∈ (ofConst v).ids := iU hz';refine new (hid rfl) hex ⟨List.replicate m v, ?_, ?_, fun u hu => ?_, fun b hb o ho => ?_⟩ (fun k hk => ?_) (fun j hj => ?_) ⟨(upd_same ..).symm, _, _, _, rfl⟩ rfl
          ·exact VI
          ·exact R1s.rep (hr1.mono (B' := upd B id _) hE (fun i hi => by have := hz0 i hi; rw [iH] at this; simp at this)) m
          ·rw [List.eq_of_mem_replicate hu]; exact hv1
          ·exact VB
          ·exact Zz
          ·obtain ⟨y, hy1, hy2⟩ := List.mem_flatMap.1 hj;rw [List.eq_of_mem_replicate hy1] at hy2;have := hz0 j hy2; rw [iH] at this; simp at this
         ·cases hq
        ·cases hq
     ·cases hq
    ·cases hq
   ·cases hq
 | makeMap t rs =>
   cases rs with
   | some _ => simp [hop, qv2] at hq
   | none =>
     simp only [hop, qv2] at hq;split at hq
     ·cases hq
      refine new (v := .map (some w.heap.size)) (x := .map #[] 0) (hid rfl) ?_ ⟨w.heap.size, #[], 0, upd_same .., heap_alloc_new _ _, trivial, fun p hp => ?_⟩ (fun k hk => ?_) (fun j hj => by simp [O.ids] at hj) ⟨(upd_same ..).symm, _, rfl⟩ rfl
      ·simp only [execOp, hop, Option.map_none];rfl
      ·have := hm.there _ _ hp; omega
      ·have hk' : upd B id (Value.map (some w.heap.size)) id = .map (some k) := hk;rw [upd_same] at hk'; cases hk'; rfl
     ·cases hq
 | lookup t x k ok =>
   simp only [hop, qv2] at hq;have hx := hev x;have hk := hev k;split at hq
   ·rename_i kt e key ht hkey;have hmap := hT.map _ _ _ ht;obtain ⟨hkr, -⟩ := GI hkey hk;split at hq
    ·rename_i hkt;have hfine := qh (P := P) hT hkt hkr;split at hq
     ·rename_i j ex;rw [ex] at hx;split at hq
      ·rename_i ents hj;obtain ⟨r', es, clock, hB, hheap, hes, -⟩ := hm.objs j _ hj;have hxv : a.eval x = .map (some r') := hx.1.trans hB;split at hq
       ·rename_i q v hf;cases hq
        rcases lC hT hkt hkr hes hf with ⟨e1, -⟩ | ⟨q', v', e', k', e1, e2, e3, e4, e5, e6⟩
        ·cases e1
        ·cases e1
         refine same (v := if ok = true then .tuple #[e'.val, .bool true] else e'.val) ?_ (uH e6) (fun i hi => hm.live j _ hj i (List.mem_flatMap.2 ⟨(k', v), List.mem_of_getElem? e4, List.mem_append_right _ (lq i hi)⟩));simp [execOp, hop, hxv, Instr.lookup, run_underlying hmap, MapKept.run_getObj_map hheap, hfine.check, e2, Result.andThen]
       ·rename_i hf;split at hq
        ·rename_i z hz;cases hq
         obtain ⟨v, hv1, hv2, hv3⟩ := xS (B := B) (I := I) hT hm hz;rcases lC hT hkt hkr hes hf with ⟨-, e2⟩ | ⟨q', v', e', k', e1, -⟩
         ·refine same (v := if ok = true then .tuple #[v, .bool false] else v) ?_ (uH hv2) (fun i hi => by have := lq i hi; rw [hv3] at this; simp at this);exact Wt
         ·cases e1
        ·cases hq
       ·cases hq
      ·rename_i L hj;obtain ⟨r', es, clock, hB, hheap, hnm, -⟩ := hm.objs j _ hj;have hxv : a.eval x = .map (some r') := hx.1.trans hB;unfold JE at hq;split at hq
       ·rename_i s hz0;cases hq
        obtain ⟨v, hv1, hv2, hv3⟩ := xS (B := B) (I := I) hT hm hz0;have hes := CW (B := B) (w := w) (I := I) hnm.each;rcases Vw hnm.each s with ⟨hf, hno⟩ | ⟨q, e, hf, hq', hk'⟩
        ·have hnl : s.data.toList ∉ L := fun h => by
          obtain ⟨e, he, hk'⟩ := (hnm.told L rfl s).2 h;exact hno e he hk'
         rcases lC hT hkt hkr hes hf with ⟨-, e2⟩ | ⟨q', v', e', k', e1, -⟩
         ·refine same (v := v) ?_ ?_ (fun i hi => by simp [A.ids] at hi)
          ·exact Wt
          ·rw [if_neg (by simpa using hnl)]; exact hv2
         ·cases e1
        ·have hl : s.data.toList ∈ L := (hnm.told L rfl s).1 ⟨e, List.mem_of_getElem? hq', hk'⟩;rcases lC hT hkt hkr hes hf with ⟨e1, -⟩ | ⟨q', v', e', k', e1, e2, e3, e4, e5, e6⟩
         ·cases e1
         ·cases e1
          refine same (v := e'.val) ?_ ?_ (fun i hi => by simp [A.ids] at hi)
          ·simp [execOp, hop, hxv, Instr.lookup, run_underlying hmap, MapKept.run_getObj_map hheap, hfine.check, e2, Result.andThen]
          ·rw [if_pos yF]; exact e6
       ·cases hq
      ·cases hq
     ·rename_i ex;rw [ex] at hx;have hxv : a.eval x = .map none := hx;split at hq
      ·rename_i z hz;cases hq
       obtain ⟨v, hv1, hv2, hv3⟩ := xS (B := B) (I := I) hT hm hz;have e2 : (Instr.findKey kt (a.eval k) []).run P w = .ok none w := by
        rcases lC hT hkt hkr (ents := []) (es := []) trivial (r := none) rfl with ⟨-, e2⟩ | ⟨q', v', e', k', e1, -⟩
        ·exact e2
        ·cases e1
       refine same (v := if ok = true then .tuple #[v, .bool false] else v) ?_ (uH hv2) (fun i hi => by have := lq i hi; rw [hv3] at this; simp at this);simp [execOp, hop, hxv, Instr.lookup, run_underlying hmap, hfine.check, e2, Result.andThen, hv1]
      ·cases hq
     ·cases hq
    ·cases hq
   ·cases hq
 | binOp op t x y pos =>
   simp only [hop, qv2] at hq;have hx := hev x;have hy := hev y;split at hq
   ·rename_i l xs ys hs ex ey;rw [ex] at hx;rw [ey] at hy;obtain ⟨us, hu, hur⟩ := hx;obtain ⟨vs, hv, hvr⟩ := hy;obtain ⟨h1, h2, ⟨fs, hfs, hfl⟩, -⟩ := hT.seq _ _ hs;split at hq
    ·rename_i hoff;split at hq
     ·rename_i b hb;split at hq
      ·rename_i r' hr';cases hq
       have hfo : P.fieldsOf t = fs := by simp [Program.fieldsOf, hfs]
       have heq : (Op.equal t (.agg us.toArray) (.agg vs.toArray)).run P w = .ok b w := by
        show (Op.equalIn (9999 + 1) t _ _).run P w = _;rw [run_equalIn_struct w 9999 t _ _ (by rw [hfo]; exact hfs) h1, hfo];exact Br hT 9998 _ l 0 us vs xs ys b hfl hoff hur hvr hb
       have hg : (eqGuard op t x y (.agg us.toArray) (.agg vs.toArray)).run P w = .ok () w := by
        unfold eqGuard;cases op <;> simp [h2]
       unfold FI at hr';split at hr' <;> cases hr'
       ·refine same (v := .bool b) ?_ .bool (fun i hi => by simp [A.ids] at hi);exact TY
       ·refine same (v := .bool (!b)) ?_ .bool (fun i hi => by simp [A.ids] at hi);exact TY
      ·cases hq
     ·cases hq
    ·cases hq
   ·cases hq
 | convert ta tb x =>
   simp only [hop, qv2] at hq;have hx := hev x;split at hq
   ·rename_i k k' k2 n h1 h2 ex;cases hq
    rw [ex] at hx;have hxv := (RC.toInt hx).1;refine same (v := .int k' (k'.wrap n)) ?_ (.int (vY _ _)) (fun i hi => by simp [A.ids] at hi);have u1 := hT.int _ _ h1;have u2 := hT.int _ _ h2;simp [execOp, hop, hxv, convert, run_underlying u1, run_underlying u2, Conv.intToInt]
   ·cases hq
 | unOp op ty x =>
   cases op with
   | neg =>
     simp only [hop, qv2] at hq;have hx := hev x;split at hq
     ·rename_i k n ex;cases hq
      rw [ex] at hx;have hxv := (RC.toInt hx).1;exact same (v := .int k (k.wrap (0 - n))) (by simp [execOp, hop, hxv, Op.unary, Op.intArith]) (.int (vY _ _)) (fun i hi => by simp [A.ids] at hi)
     ·cases hq
   | _ => simp [hop, qv2] at hq
 | extract x i =>
   simp only [hop, qv2] at hq;have hx := hev x;split at hq
   ·rename_i xs ex;rw [ex] at hx;obtain ⟨vs, hv, hvs⟩ := hx;split at hq
    ·rename_i y hy;cases hq
     obtain ⟨v, hv1, hv2⟩ := hvs.at i y hy;refine same (v := v) ?_ (F4.2 hv2) (fun i' hi => hel x i' Zx);simp [execOp, hop, hv, Instr.extract, hv1]
    ·cases hq
   ·cases hq
 | makeInterface t x =>
   simp only [hop, qv2] at hq;split at hq
   ·rename_i hk;split at hq
    ·rename_i r' hr;cases hq
     refine same (v := .iface t (a.eval x)) ?_ ⟨_, rfl, Xz hm hr (hev x)⟩ (fun i hi => by simp [A.ids] at hi);simp only [Bool.or_eq_true] at hk;rcases hk with hk | hk
     ·cases hk2 : T.int t with
      | none => rw [hk2] at hk; cases hk
      | some k => simp [execOp, hop, Instr.makeInterface, run_underlying (hT.int _ _ hk2)]
     ·cases hk2 : T.fields t with
      | none => rw [hk2] at hk; cases hk
      | some l =>
        obtain ⟨fs, hfs, -⟩ := hT.fields _ _ hk2;simp [execOp, hop, Instr.makeInterface, run_underlying hfs]
    ·cases hq
   ·cases hq
 | call c =>
   simp only [hop, qv2] at hq;obtain ⟨cal, args, tys⟩ := c;split at hq
   ·rename_i x t hc hargs hty;simp only at hc hargs hty;subst hc;have ea : args = #[x] := by rw [← Array.toArray_toList (xs := args), hargs]
    have et : tys = #[t] := by rw [← Array.toArray_toList (xs := tys), hty]
    subst ea et;have hx := hev x;split at hq
    ·rename_i j ex;rw [ex] at hx;split at hq
     ·rename_i q ty' e xs he hj;exact aau
     ·rename_i q ty' xs he hj;exact aau
     ·cases hq
    ·rename_i j ex;rw [ex] at hx;split at hq
     ·rename_i q ents ht hj;split at hq
      ·rename_i hlen;cases hq
       have hu := hT.map _ _ _ ht;obtain ⟨r', es, clock, hB, hh, hes, -⟩ := hm.objs j _ hj;have hxv : a.eval x = .map (some r') := hx.1.trans hB;have hel : ∀ {l : List (A1 × A1)} {es : List MapEntry}, REs B w I l es → l.length = es.length := by
        intro l;induction l with
        | nil => intro es h; cases es with | nil => rfl | cons _ _ => exact h.elim
        | cons p l ih => intro es h; cases es with | nil => exact h.elim | cons _ _ => simp [ih h.2]
       have hl := hel hes;refine same (v := .int .i64 ents.length) ?_ (.int ?_) (fun i hi => by simp [A.ids] at hi)
       ·have : (getObj r').run P w = .ok (.map es clock) w := by show Sem.run P (Sem.getObj r' Sem.pure) w = _; simp [Sem.run, hh]
        simp [execOp, hop, resolve, invoke, builtin, Builtin.len_, hxv, run_underlying hu, goInt, this, hl]
       ·exact Wz
      ·cases hq
     ·cases hq
    ·rename_i ex;rw [ex] at hx;split at hq
     ·rename_i q ht;cases hq
      have hu := hT.map _ _ _ ht;have hxv : a.eval x = .map none := hx;refine same (v := .int .i64 0) ?_ (.int (by decide)) (fun i hi => by simp [A.ids] at hi);simp [execOp, hop, resolve, invoke, builtin, Builtin.len_, hxv, run_underlying hu, goInt]
     ·cases hq
    ·rename_i b ex;rw [ex] at hx;split at hq
     ·rename_i ht;cases hq
      obtain ⟨hxv, hss⟩ := RC.toStr hx;refine same (v := .int .i64 b.size) ?_ (.int ?_) (fun i hi => by simp [A.ids] at hi)
      ·simp [execOp, hop, resolve, invoke, builtin, Builtin.len_, hxv, run_underlying (hT.str _ ht), goInt]
      ·simp [Lit.wf, IntKind.min, IntKind.max, IntKind.bits, IntKind.signed];unfold gP at hss;omega
     ·cases hq
    ·cases hq
   ·rename_i x y hc hargs;simp only at hc hargs;subst hc;have ea : args = #[x, y] := by rw [← Array.toArray_toList (xs := args), hargs]
    subst ea;have hx := hev x;have hy := hev y;split at hq
    ·rename_i k n k' m ex ey;rw [ex] at hx;rw [ey] at hy;split at hq
     ·rename_i hk;subst hk;cases hq
      have hxv := RC.toInt hx;have hyv := RC.toInt hy;refine same (v := .int k (if m < n then m else n)) ?_ (.int (xB _ hyv.2 hxv.2)) (fun i hi => by simp [A.ids] at hi);simp [execOp, hop, resolve, invoke, builtin, Builtin.min_, Builtin.min2, hxv.1, hyv.1]
     ·cases hq
    ·cases hq
   ·rename_i x y hc hargs;simp only at hc hargs;subst hc;have ea : args = #[x, y] := by rw [← Array.toArray_toList (xs := args), hargs]
    subst ea;have hx := hev x;have hy := hev y;split at hq
    ·rename_i k n k' m ex ey;rw [ex] at hx;rw [ey] at hy;split at hq
     ·rename_i hk;subst hk;cases hq
      have hxv := RC.toInt hx;have hyv := RC.toInt hy;refine same (v := .int k (if n < m then m else n)) ?_ (.int (xB _ hyv.2 hxv.2)) (fun i hi => by simp [A.ids] at hi);simp [execOp, hop, resolve, invoke, builtin, Builtin.max_, Builtin.max2, hxv.1, hyv.1]
     ·cases hq
    ·cases hq
   ·rename_i x y z hc hargs;simp only at hc hargs;subst hc;have ea : args = #[x, y, z] := by rw [← Array.toArray_toList (xs := args), hargs]
    subst ea;have hx := hev x;have hy := hev y;have hz := hev z;split at hq
    ·rename_i k n k' m k'' l ex ey ez;rw [ex] at hx;rw [ey] at hy;rw [ez] at hz;split at hq
     ·rename_i hk;obtain ⟨hk1, hk2⟩ := hk;subst hk1 hk2;cases hq
      have hxv := RC.toInt hx;have hyv := RC.toInt hy;have hzv := RC.toInt hz;refine same (v := .int k (mn3 n m l)) ?_ (.int (xB _ hzv.2 (xB _ hyv.2 hxv.2))) (fun i hi => by simp [A.ids] at hi);simp [execOp, hop, resolve, invoke, builtin, Builtin.min_, Builtin.min2, hxv.1, hyv.1, hzv.1, mn3]
     ·cases hq
    ·cases hq
   ·rename_i x y z hc hargs;simp only at hc hargs;subst hc;have ea : args = #[x, y, z] := by rw [← Array.toArray_toList (xs := args), hargs]
    subst ea;have hx := hev x;have hy := hev y;have hz := hev z;split at hq
    ·rename_i k n k' m k'' l ex ey ez;rw [ex] at hx;rw [ey] at hy;rw [ez] at hz;split at hq
     ·rename_i hk;obtain ⟨hk1, hk2⟩ := hk;subst hk1 hk2;cases hq
      have hxv := RC.toInt hx;have hyv := RC.toInt hy;have hzv := RC.toInt hz;refine same (v := .int k (mx3 n m l)) ?_ (.int (xB _ hzv.2 (xB _ hyv.2 hxv.2))) (fun i hi => by simp [A.ids] at hi);simp [execOp, hop, resolve, invoke, builtin, Builtin.max_, Builtin.max2, hxv.1, hyv.1, hzv.1, mx3]
     ·cases hq
    ·cases hq
   ·cases hq
 | _ => simp [hop, qv2] at hq
theorem WU (hT : T.Ok P) {s : Nat → A} {a : Act} {id : Nat} {r : A} {ob : Option O} {o : Oper} (hm : MR w0 I0 B I mem w) (hs : ∀ t, RV B w I (s t) (a.tmps.getD t undef)) (hl : ∀ t, ∀ j ∈ (s t).ids, (mem j).isSome = true)
 (hid : ob.isSome = true → mem id = none) (hq : qv T s mem id o.op = some (r, ob)) :
 ∃ v w' B' I', (execOp a.eval o).run P w = .ok (.value v) w' ∧ MR w0 I0 B' I' (mem.put id ob) w' ∧ Below w.heap.size w w' ∧ (∀ b p, I b p → I' b p) ∧ (∀ j, (mem j).isSome = true → B' j = B j) ∧ RV B' w' I' r v ∧
   ∀ j ∈ r.ids, (mem.put id ob j).isSome = true := by
 unfold qv at hq
 split at hq
 ·rename_i r' h1; cases hq; exact Rs hT hm hs hl hid h1
 ·exact Qu hT hm hs hl hid hq
end
structure St where
 s : Nat → A
 m : Mem
def eY (s : Nat → A) : Option Nat → A → Nat → A
 | some d, r => upd s d r
 | none, _ => s
structure Ref where
 w0 : World
 I0 : Nat → Nat → Prop
 w : World
 I : Nat → Nat → Prop
 B : Nat → Value
 keep : Nat → Prop
def DID : Nat := 1000000
def dfs : A → List Deferred
 | .defs l => l
 | _ => []
theorem oL (id : Nat) (a : A) : dfs (a.kill id) = dfs a := by
 cases a <;> simp only [A.kill] <;> (try split) <;> rfl
theorem F7 {n : Nat} (hn : n ≤ DID) {s : Nat → A} {dst : Option Nat} {r : A} (hd : ∀ d, dst = some d → d < n) : eY s dst r DID = s DID := by
 cases dst with
 | none => rfl
 | some d => exact upd_ne _ _ (fun e => by have := hd d rfl; omega)
structure SR (R : Ref) (n : Nat) (ds : List Deferred) (st : St) (a : Act) (w : World) : Prop where
 ex : ∃ B I, MR R.w0 R.I0 B I st.m w ∧ Ext R.w w R.I I ∧ (∀ j, R.keep j → B j = R.B j) ∧ ∀ t, RV B w I (st.s t) (a.tmps.getD t undef)
 ids : ∀ t, ∀ j ∈ (st.s t).ids, (st.m j).isSome = true
 size : a.tmps.size = n
 nn : n ≤ DID
 defs : a.defers = dfs (st.s DID) ++ ds
 kept : ∀ j, R.keep j → (st.m j).isSome = true
structure WF (st : St) : Prop where
 ids : ∀ t, ∀ j ∈ (st.s t).ids, (st.m j).isSome = true
 live : ∀ id o, st.m id = some o → ∀ j ∈ o.ids, (st.m j).isSome = true
theorem SR.wf {R : Ref} {w : World} {n : Nat} {ds : List Deferred} {st : St} {a : Act} (h : SR R n ds st a w) : WF st := ⟨h.ids, let ⟨_, _, hm, _⟩ := h.ex; hm.live⟩
def wV (ops : Array Oper) (s : Nat → A) (j : Nat) : Option (Option Bool) :=
 match (ops[j]?).bind (·.dst) with
 | none => some none
 | some d => match s d with | .c (.bool b) => some (some b) | .undef => some none | _ => none
def eH (ops : Array Oper) (o : Oper) (s : Nat → A) : Option Bool :=
 match o.guard with
 | none => some true
 | some (j, want) => match wV ops s j with | some y => some (y == some want) | none => none
theorem getD_lt {xs : Array Value} {d : Nat} {v : Value} (h : xs.getD d undef = v) (hv : v ≠ undef) : xs[d]? = some v := by
 rw [Array.getD_eq_getD_getElem?] at h;cases hx : xs[d]? with
 | none => rw [hx] at h; exact absurd h.symm hv
 | some u => rw [hx] at h; exact congrArg some h
theorem fC {B : Nat → Value} {w : World} {I : Nat → Nat → Prop} {ops : Array Oper} {o : Oper} {s : Nat → A} {a : Act} {b : Bool} (hs : ∀ t, RV B w I (s t) (a.tmps.getD t undef)) (h : eH ops o s = some b) : Region.wanted o (yielded ops a.tmps) = b := by
 unfold eH at h;unfold Region.wanted;split at h
 ·rename_i hg; cases h; rw [hg]
 ·rename_i j want hg;rw [hg];split at h
  ·rename_i y hy;cases h
   dsimp only
   congr 1
   unfold wV at hy;unfold yielded;split at hy
   ·rename_i e; rw [e]; cases hy; rfl
   ·rename_i d e;rw [e];have hd := hs d;split at hy
    ·rename_i b' eb;rw [eb] at hd;have := getD_lt (RC.toBool hd) (by intro h; cases h);cases hy
     simp [this]
    ·rename_i eb;rw [eb] at hd;cases hy
     have hu : a.tmps.getD d undef = undef := hd;cases hx : a.tmps[d]? with
     | none => simp [hx]
     | some u =>
       rw [Array.getD_eq_getD_getElem?, hx] at hu;have : u = undef := hu;subst this;simp [hx, undef]
    ·cases hy
  ·cases h
def Cv (m : Mem) (a a' : A) : Prop := a' = a ∨ a' = .top ∨ ∃ x, asC m a = some x ∧ a' = .c x
def Cvs (m : Mem) : List A → List A → Prop
 | [], [] => True
 | a :: l, a' :: l' => Cv m a a' ∧ Cvs m l l'
 | _, _ => False
def RVl (B : Nat → Value) (w : World) (I : Nat → Nat → Prop) : List A → List Value → Prop
 | [], [] => True
 | a :: al, v :: vs => RV B w I a v ∧ RVl B w I al vs
 | _, _ => False
inductive Reach (m : Mem) (args : List A) : Nat → Prop where
 | arg {a : A} {j : Nat} (h : a ∈ args) (hj : j ∈ a.ids) : Reach m args j
 | obj {i j : Nat} {o : O} (h : Reach m args i) (ho : m i = some o) (hj : j ∈ o.ids) : Reach m args j
def rW (P : Go.Program) (f : FuncId) (args : List A) (m : Mem) (r : A) : Prop :=
 ∀ (w0 : World) (I0 : Nat → Nat → Prop) (B : Nat → Value) (I : Nat → Nat → Prop) (w : World) (vals : List Value), MR w0 I0 B I m w → RVl B w I args vals →
   Calls P f vals.toArray w fun e w' => ∃ v I', e = .returned v ∧ Below w.heap.size w w' ∧ (∀ b o, I b o → I' b o) ∧ (∀ b o, I' b o → I b o ∨ (w.heap.size ≤ b ∧ b < w'.heap.size)) ∧ RV B w' I' r v
theorem rW.RB {P : Go.Program} {f : FuncId} {args : List A} {m : Mem} {r : A} (h : rW P f args m r) : rW P f args m r := h
def COk (P : Go.Program) (f : FuncId) (args : List A) (m : Mem) (r : A) : Prop :=
 (∀ args w, (callFunc f args).run P w = .ok (.enter f args) w) ∧ r.ids = [] ∧ ∀ m', (∀ j, Reach m args j → m' j = m j) → rW P f args m' r
def nE (m : Mem) : List Nat → Option (List (List C))
 | [] => some []
 | j :: l => match m j with
   | some (.box _ cells) => (match qJ m cells, nE m l with | some xs, some r => some (xs :: r) | _, _ => none)
   | _ => none
def asL (m : Mem) : A → Option C
 | .own id => match m id with | some (.arr _ _ xs) => some (.sl xs) | some (.mrow _ _ xs) => some (.sl xs) | _ => none
 | a => asC m a
def xJ (m : Mem) : List A → Option (List C)
 | [] => some []
 | a :: l => match asL m a, xJ m l with | some x, some xs => some (x :: xs) | _, _ => none
def CvR (m : Mem) (a a' : A) : Prop := Cv m a a' ∨ (∃ j ty cells xs, a = .ptr j 0 ∧ m j = some (.box ty cells) ∧ xJ m cells = some xs ∧ a' = .rptr xs) ∨ (∃ f ids caps, a = .fn f ids ∧ nE m ids = some caps ∧ a' = .fnR f caps) ∨ ∃ id ty e xs, a = .own id ∧ m id = some (.mrow ty e xs) ∧ a' = .c (.sl xs)
def BU (m : Mem) : List A → List A → Prop
 | [], [] => True
 | a :: l, a' :: l' => CvR m a a' ∧ BU m l l'
 | _, _ => False
def GY : C → Bool
 | .sl _ => false
 | _ => true
def PO : A → Bool
 | .c x => GY x
 | .tup xs => xs.all fun p => p.2.all GY
 | _ => false
theorem Bn {w w' : World} {I I' : Nat → Nat → Prop} {x : C} {v : Value} (h : GY x = true) (hv : RC w I v x) : RC w' I' v x := by
 cases hv with
 | int k => exact .int k
 | bool => exact .bool
 | str k => exact .str k
 | sl => cases h
theorem Df {w w' : World} {I I' : Nat → Nat → Prop} : ∀ {xs : List C} {vs : List Value}, xs.all GY = true → RCs w I vs xs → RCs w' I' vs xs
 | [], [], _, _ => trivial
 | x :: xs, v :: vs, h, hv => by
   simp only [List.all_cons, Bool.and_eq_true] at h;exact ⟨Bn h.1 hv.1, Df h.2 hv.2⟩
theorem Dx {w w' : World} {I I' : Nat → Nat → Prop} : ∀ {xs : List (Bool × List C)} {vs : List Value}, (xs.all fun p => p.2.all GY) = true → RTs w I vs xs → RTs w' I' vs xs
 | [], [], _, _ => trivial
 | x :: xs, v :: vs, h, hv => by
   simp only [List.all_cons, Bool.and_eq_true] at h;refine ⟨?_, Dx h.2 hv.2⟩;have h1 := hv.1;unfold RT at h1 ⊢;split
   ·rename_i hx; rw [if_pos hx] at h1; obtain ⟨us, k1, k2⟩ := h1; exact ⟨us, k1, Df h.1 k2⟩
   ·rename_i hx; rw [if_neg hx] at h1; obtain ⟨y, k1, k2⟩ := h1;rw [k1] at h;exact ⟨y, k1, Bn (by simpa using h.1) k2⟩
theorem Qd {B B' : Nat → Value} {w w' : World} {I I' : Nat → Nat → Prop} {r : A} {v : Value} (h : PO r = true) (hv : RV B w I r v) : RV B' w' I' r v := by
 cases r with
 | c x => exact Bn h hv
 | tup xs => obtain ⟨vs, k1, k2⟩ := hv; exact ⟨vs, k1, Dx h k2⟩
 | _ => cases h
def lH (base : Nat) (o : Oper) : Nat := base + o.dst.getD 0
inductive HV (P : Go.Program) (T : Tab) (base : Nat) (ops : Array Oper) (o : Oper) (st : St) : A → Option O → Prop where
 | skip (h : eH ops o st.s = some false) : HV P T base ops o st .undef none
 | val {r : A} {ob : Option O} (h : eH ops o st.s = some true) (hq : qv T st.s st.m (lH base o) o.op = some (r, ob)) (hid : ob.isSome = true → st.m (lH base o) = none) (hd : ob.isSome = true → o.dst.isSome = true) : HV P T base ops o st r ob
 | call {r : A} {c : Call} {x : Operand} {f : FuncId} {ids : List Nat} {args : List A} (h : eH ops o st.s = some true) (hop : o.op = .call c) (hc : c.callee = .value x) (hx : ev st.s x = .fn f ids) (hb : ∀ j ∈ ids, ∃ ty cells, st.m j = some (.box ty cells))
    (ha : Cvs st.m (c.args.toList.map (ev st.s) ++ ids.map (A.ptr · 0)) args) (hk : COk P f args st.m r) : HV P T base ops o st r none
 | callF {r : A} {c : Call} {x : Operand} {f : FuncId} {caps : List (List C)} {args : List A} (h : eH ops o st.s = some true) (hop : o.op = .call c) (hc : c.callee = .value x) (hx : ev st.s x = .fnR f caps)
    (ha : Cvs st.m (c.args.toList.map (ev st.s) ++ caps.map A.rptr) args) (hk : COk P f args st.m r) : HV P T base ops o st r none
 | callR {r : A} {c : Call} {x : Operand} {f : FuncId} {ids : List Nat} {args : List A} (h : eH ops o st.s = some true) (hop : o.op = .call c) (hc : c.callee = .value x) (hx : ev st.s x = .fn f ids) (hb : ∀ j ∈ ids, ∃ ty cells, st.m j = some (.box ty cells))
    (ha : BU st.m (c.args.toList.map (ev st.s) ++ ids.map (A.ptr · 0)) args) (hi : ∀ a ∈ args, a.ids = []) (hf : PO r = true) (hk : ∀ m, COk P f args m r) : HV P T base ops o st r none
theorem za {B : Nat → Value} {w : World} {I : Nat → Nat → Prop} {s : Nat → A} {a : Act} {dst : Option Nat} {r : A} {v : Value} (hs : ∀ t, RV B w I (s t) (a.tmps.getD t undef)) (hv : RV B w I r v) (hd : ∀ d, dst = some d → d < a.tmps.size) :
 ∀ t, RV B w I (eY s dst r t) ((a.put dst v).tmps.getD t undef) := by
 cases dst with
 | none => exact hs
 | some d =>
   intro t;have hd := hd d rfl;simp only [eY, upd, Act.put];by_cases e : t = d
   ·subst e;simp [hd, hv]
   ·rw [if_neg e];have := hs t;rw [Array.getD_eq_getD_getElem?] at this ⊢;rw [Array.getElem?_setIfInBounds_ne (Ne.symm e)];exact this
theorem wR {s : Nat → A} {m : Mem} {dst : Option Nat} {r : A} (h : ∀ t, ∀ j ∈ (s t).ids, (m j).isSome = true) (hr : ∀ j ∈ r.ids, (m j).isSome = true) : ∀ t, ∀ j ∈ (eY s dst r t).ids, (m j).isSome = true := by
 intro t j hj;cases dst with
 | none => exact h t j hj
 | some d =>
   simp only [eY, upd] at hj;split at hj
   ·exact hr j hj
   ·exact h t j hj
theorem qU {m : Mem} {id : Nat} {ob : Option O} {j : Nat} (h : (m j).isSome = true) : (m.put id ob j).isSome = true := by
 cases ob with
 | none => exact h
 | some x =>
   simp only [Mem.put, upd];split
   ·rfl
   ·exact h
theorem gX (a : Act) (dst : Option Nat) (v : Value) : (a.put dst v).tmps.size = a.tmps.size ∧ (a.put dst v).defers = a.defers := by
 cases dst <;> simp [Act.put]
theorem sV {w0 w : World} {I0 I : Nat → Nat → Prop} {B : Nat → Value} {m : Mem} (hm : MR w0 I0 B I m w) : ∀ {al al' : List A} {vs : List Value}, Cvs m al al' → RVl B w I al vs → RVl B w I al' vs
 | [], [], [], _, _ => trivial
 | _ :: _, _ :: _, _ :: _, h, k => ⟨by
     rcases h.1 with e | e | ⟨x, hx, e⟩
     ·rw [e]; exact k.1
     ·rw [e]; trivial
     ·rw [e]; exact ku hm hx k.1, sV hm h.2 k.2⟩
theorem nS {B : Nat → Value} {w : World} {I : Nat → Nat → Prop} {ρ : Operand → Value} {s : Nat → A} (hev : ∀ x, RV B w I (ev s x) (ρ x)) : ∀ l : List Operand, RVl B w I (l.map (ev s)) (l.map ρ)
 | [] => trivial
 | x :: l => ⟨hev x, nS hev l⟩
theorem RVl.append {B : Nat → Value} {w : World} {I : Nat → Nat → Prop} : ∀ {al bl : List A} {vs us : List Value}, RVl B w I al vs → RVl B w I bl us → RVl B w I (al ++ bl) (vs ++ us)
 | [], _, [], _, _, h => h
 | _ :: _, _, _ :: _, _, h, k => ⟨h.1, RVl.append h.2 k⟩
theorem mX {w0 w : World} {I0 I : Nat → Nat → Prop} {B : Nat → Value} {m : Mem} (hm : MR w0 I0 B I m w) : ∀ {ids : List Nat}, (∀ j ∈ ids, ∃ ty cells, m j = some (.box ty cells)) → RVl B w I (ids.map (A.ptr · 0)) (ids.map B)
 | [], _ => trivial
 | j :: ids, h => ⟨by
     obtain ⟨ty, cells, hj⟩ := h j (by simp);obtain ⟨b, vs, h1, -⟩ := hm.objs j _ hj;exact ⟨b, h1, h1⟩, mX hm fun i hi => h i (by simp [hi])⟩
theorem Gi {B : Nat → Value} {w : World} {I I' : Nat → Nat → Prop} {id : Nat} {ty : TypeId} {e : Nat} {xs : List (List C)} (hI : ∀ b o, I b o → I' b o) (hN : ∀ b, (B id).ownBlock = some b → ∀ o, I' b o) (h : RO B w I id (.mrow ty e xs)) : RC w I' (B id) (.sl xs) := by
 obtain ⟨vs, hrow, hvs, hlx, hnI⟩ := h;have hvs' : RCs w I' vs (flat xs) := hvs.mono ⟨hI, fun _ _ _ => rfl⟩;obtain ⟨hl, ho⟩ := hrow;rcases ho with ⟨ev, hn⟩ | ⟨g, off, cap, cur, ev, hcell, q1, q2, q3, q4⟩
 ·obtain rfl : xs = [] := List.length_eq_zero_iff.1 hn;rw [ev];exact ZT
 ·have hat : ∀ i j x, xs[i]? = some x → j < e → i * e + j < xs.length * e := fun i j x hx hj => by
   exact aaK
  rw [ev];refine RC.sl (e := e) (fun i j => vs.getD (i * e + j) undef) rfl q1 q2 hlx (fun i x hx => ⟨g, off, rfl, fun j hj => ⟨hN g (by rw [ev]; rfl) _, ?_⟩⟩) (fun i j x c hx hc => ?_)
  ·have hlt := hat i j x hx hj;have hcur : cur[off + (i * e + j)]? = vs[i * e + j]? := by
    exact J2
   rw [Nat.add_assoc];have hv : vs[i * e + j]? = some (vs.getD (i * e + j) undef) := by
    exact Wj
   exact Tp
  ·have hj : j < e := by rw [← hlx x (List.mem_of_getElem? hx)]; exact (List.getElem?_eq_some_iff.1 hc).1
   have hfl := kT hlx i j x hx hj;exact UG
def qD (B : Nat → Value) (I : Nat → Nat → Prop) (m : Mem) : Nat → Nat → Prop := fun b o => I b o ∨ ∃ j x, m j = some x ∧ foot B j x b
theorem Kj {w0 w : World} {I0 I : Nat → Nat → Prop} {B : Nat → Value} {m : Mem} (hm : MR w0 I0 B I m w) : MR w0 I0 B (qD B I m) Mem.nil w := by
 refine ⟨hm.below, hm.glob, fun b o h => .inl (hm.base b o h), fun b o h => ?_, fun b o h => ?_, fun _ _ h => absurd h (bV _), fun _ _ h => absurd h (bV _), fun _ _ _ _ h => absurd h (bV _), fun _ _ h => absurd h (bV _)⟩
 ·rcases h with h | ⟨j, x, h1, h2⟩
  ·exact hm.old b o h
  ·exact .inr (hm.low j _ h1 b h2).1
 ·rcases h with h | ⟨j, x, h1, h2⟩
  ·exact hm.there b o h
  ·exact (hm.low j _ h1 b h2).2
theorem wI {B : Nat → Value} {w : World} {I : Nat → Nat → Prop} {m : Mem} : Ext w w I (qD B I m) := ⟨fun _ _ h => .inl h, fun _ _ _ => rfl⟩
theorem Nz {w0 w : World} {I0 I : Nat → Nat → Prop} {B : Nat → Value} {m : Mem} (hm : MR w0 I0 B I m w) {j : Nat} {ty : TypeId} {cells : List A} {xs : List C} (hj : m j = some (.box ty cells)) (hx : qJ m cells = some xs) :
 ∃ b us, B j = .pointer (some ⟨b, 0, none⟩) ∧ RCs w (qD B I m) us xs ∧ ∀ i x, us[i]? = some x → qD B I m b (0 + i) ∧ w.cell? ⟨b, 0 + i, none⟩ = some x := by
 obtain ⟨b, vs, h1, h2, h3, -⟩ := hm.objs j _ hj
 refine ⟨b, vs, h1, (kY hm hx h3).mono wI, fun i x hi => ⟨.inr ⟨j, _, hj, ⟨0, h1⟩⟩, ?_⟩⟩
 simp only [World.cell?, h2]
 simpa using hi
theorem Ye {w0 w : World} {I0 I : Nat → Nat → Prop} {B : Nat → Value} {m : Mem} (hm : MR w0 I0 B I m w) {a : A} {x : C} {v : Value} (hx : asL m a = some x) (hv : RV B w I a v) : RC w (qD B I m) v x := by
 have key : asC m a = some x → RC w (qD B I m) v x := fun h => RC.mono wI (ku hm h hv)
 cases a with
 | own id =>
   have hvB : v = B id := hv.1;simp only [asL] at hx;split at hx
   ·rename_i ty e xs hj;exact key (by simp only [asC, hj]; exact hx)
   ·rename_i ty e xs hj;cases hx
    rw [hvB];exact Gi (fun _ _ h => .inl h) (fun b hb o => .inr ⟨id, _, hj, hb⟩) (hm.objs _ _ hj)
   ·cases hx
 | _ => exact key hx
theorem Gp {w0 w : World} {I0 I : Nat → Nat → Prop} {B : Nat → Value} {m : Mem} (hm : MR w0 I0 B I m w) : ∀ {al : List A} {xs : List C} {vs : List Value}, xJ m al = some xs → RVs B w I al vs → RCs w (qD B I m) vs xs
 | [], xs, [], h, _ => by simp [xJ] at h; subst h; trivial
 | a :: al, xs, v :: vs, h, hv => by
   simp only [xJ] at h;split at h
   ·rename_i x r h1 h2;cases h
    exact ⟨Ye hm h1 hv.1.1, Gp hm h2 hv.2⟩
   ·cases h
theorem LJ {w0 w : World} {I0 I : Nat → Nat → Prop} {B : Nat → Value} {m : Mem} (hm : MR w0 I0 B I m w) {j : Nat} {ty : TypeId} {cells : List A} {xs : List C} (hj : m j = some (.box ty cells)) (hx : xJ m cells = some xs) :
 ∃ b us, B j = .pointer (some ⟨b, 0, none⟩) ∧ RCs w (qD B I m) us xs ∧ ∀ i x, us[i]? = some x → qD B I m b (0 + i) ∧ w.cell? ⟨b, 0 + i, none⟩ = some x := by
 obtain ⟨b, vs, h1, h2, h3, -⟩ := hm.objs j _ hj
 refine ⟨b, vs, h1, Gp hm hx h3, fun i x hi => ⟨.inr ⟨j, _, hj, ⟨0, h1⟩⟩, ?_⟩⟩
 simp only [World.cell?, h2]
 simpa using hi
theorem Cq {w0 w : World} {I0 I : Nat → Nat → Prop} {B : Nat → Value} {m : Mem} (hm : MR w0 I0 B I m w) : ∀ {ids : List Nat} {caps : List (List C)}, nE m ids = some caps → RPs w (qD B I m) caps (ids.map B)
 | [], caps, h => by simp [nE] at h; subst h; trivial
 | j :: ids, caps, h => by
   simp only [nE] at h;split at h
   ·rename_i ty cells hj;split at h
    ·rename_i xs r hx hr;cases h
     obtain ⟨b, us, h1, h2, h3⟩ := Nz hm hj hx;exact ⟨⟨b, 0, us, h1, h2, h3⟩, Cq hm hr⟩
    ·cases h
   ·cases h
theorem BN {w0 w : World} {I0 I : Nat → Nat → Prop} {B : Nat → Value} {m : Mem} (hm : MR w0 I0 B I m w) : ∀ {al al' : List A} {vs : List Value}, BU m al al' → RVl B w I al vs → RVl B w (qD B I m) al' vs
 | [], [], [], _, _ => trivial
 | _ :: _, _ :: _, _ :: _, h, k => ⟨by
     rcases h.1 with (e | e | ⟨x, hx, e⟩) | ⟨j, ty, cells, xs, e1, hj, hx, e⟩ | ⟨f, ids, caps, e1, hcp, e⟩ | ⟨id, ty, e0, xs, e1, hj, e⟩
     ·rw [e]; exact k.1.mono wI fun _ _ => rfl
     ·rw [e]; trivial
     ·rw [e]; exact RC.mono wI (ku hm hx k.1)
     ·rw [e];have k1 := k.1;rw [e1] at k1;obtain ⟨b, h1, h2⟩ := k1;obtain ⟨b', us, h3, h4, h5⟩ := LJ hm hj hx;rw [h1] at h3; cases h3;exact ⟨b, 0, us, h2, h4, h5⟩
     ·rw [e];have k1 := k.1;rw [e1] at k1;exact ⟨ids.map B, k1, Cq hm hcp⟩
     ·rw [e];have k1 := k.1;rw [e1] at k1;rw [k1.1];exact Gi (fun _ _ h => .inl h) (fun b hb o => .inr ⟨id, _, hj, hb⟩) (hm.objs _ _ hj), BN hm h.2 k.2⟩
theorem JJ {B : Nat → Value} {w : World} {I : Nat → Nat → Prop} : ∀ {caps : List (List C)} {ps : List Value}, RPs w I caps ps → RVl B w I (caps.map A.rptr) ps
 | [], [], _ => trivial
 | _ :: _, _ :: _, ⟨h, k⟩ => ⟨h, JJ k⟩
section
variable {P : Go.Program} {T : Tab} (hT : T.Ok P) {R : Ref} {w : World} {n base : Nat} {ds : List Deferred} {ops : Array Oper} {o : Oper} {st : St} {r : A} {ob : Option O} {a : Act}
include hT
theorem HV.snd (h : HV P T base ops o st r ob) (hr : SR R n ds st a w) (hd : ∀ d, o.dst = some d → d < n) {K : Act → World → Prop} {Q : Exit → Act → World → Prop} (hK : ∀ a' w', SR R n ds ⟨eY st.s o.dst r, st.m.put (lH base o) ob⟩ a' w' → K a' w') :
 if Region.wanted o (yielded ops a.tmps) = true then o.wp P a w K Q else K (a.put o.dst undef) w := by
 obtain ⟨B, I, hm, hx0, hkp, hs⟩ := hr.ex
 have hd' : ∀ d, o.dst = some d → d < a.tmps.size := fun d e => by rw [hr.size]; exact hd d e
 have done : ∀ {B' : Nat → Value} {I' : Nat → Nat → Prop} {w' : World} {v : Value}, MR R.w0 R.I0 B' I' (st.m.put (lH base o) ob) w' → Ext w w' I I' → (∀ j, (st.m j).isSome = true → B' j = B j) → (∀ t, RV B' w' I' (st.s t) (a.tmps.getD t undef)) → RV B' w' I' r v → (∀ j ∈ r.ids, (st.m.put (lH base o) ob j).isSome = true) → K (a.put o.dst v) w' :=
  fun h1 he hb h2 h3 h4 => hK _ _ ⟨⟨_, _, h1, hx0.trans he, fun j hj => (hb j (hr.kept j hj)).trans (hkp j hj), za h2 h3 hd'⟩, wR (fun t j hj => qU (hr.ids t j hj)) h4, by rw [(gX _ _ _).1]; exact hr.size, hr.nn, by rw [(gX _ _ _).2]; show a.defers = dfs (eY st.s o.dst r DID) ++ ds; rw [F7 hr.nn hd]; exact hr.defs, fun j hj => qU (hr.kept j hj)⟩
 cases h with
 | skip h =>
   rw [fC hs h];rw [if_neg (by simp)];exact done hm (Ext.refl _ _) (fun _ _ => rfl) hs rfl (fun j hj => by simp [A.ids] at hj)
 | val h hq hid hdd =>
   rw [fC hs h, if_pos rfl];obtain ⟨v, w', B', I', h1, h2, h3, h4, h5, h6, h7⟩ := WU hT (a := a) hm hs hr.ids hid hq;unfold Oper.wp Oper.upon;rw [h1];exact done h2 (hm.ext h3 h4) h5 (fun t => (hs t).mono (hm.ext h3 h4) fun j hj => h5 j (hr.ids t j hj)) h6 h7
 | @call _ c x f ids args h hop hc hx hb ha hk =>
   rw [fC hs h, if_pos rfl];have hev := gM hs;have hfv : a.eval x = .func (.func f) #[] (ids.map B).toArray := by have := hev x; rw [hx] at this; exact this
   have hrv := sV hm ha ((nS hev c.args.toList).append (mX hm hb));have hcl := hk.2.2 st.m (fun _ _ => rfl) R.w0 R.I0 B I w _ hm hrv;unfold Oper.wp Oper.upon;have hrun : (execOp a.eval o).run P w = .ok (.enter f (c.args.toList.map a.eval ++ ids.map B).toArray) w := by
    exact ZC
   exact aam
 | @callF _ c x f caps args h hop hc hx ha hk =>
   rw [fC hs h, if_pos rfl];have hev := gM hs;have hfx := hev x;rw [hx] at hfx;obtain ⟨ps, hfv, hps⟩ := hfx;have hrv := sV hm ha ((nS hev c.args.toList).append (JJ hps));have hcl := hk.2.2 st.m (fun _ _ => rfl) R.w0 R.I0 B I w _ hm hrv;unfold Oper.wp Oper.upon;have hrun : (execOp a.eval o).run P w = .ok (.enter f (c.args.toList.map a.eval ++ ps).toArray) w := by
    simp only [execOp, hop, resolve, hc, hfv, Deferred.ofValue, Sem.run_bind, Sem.run_pure, Result.andThen_ok, invoke];rw [show (#[] ++ Array.map a.eval c.args ++ ps.toArray) = (List.map a.eval c.args.toList ++ ps).toArray by simp];exact hk.1 _ _
   exact aam
 | @callR _ c x f ids args h hop hc hx hb ha hi hf hk =>
   rw [fC hs h, if_pos rfl];have hev := gM hs;have hfv : a.eval x = .func (.func f) #[] (ids.map B).toArray := by have := hev x; rw [hx] at this; exact this
   have hrv := BN hm ha ((nS hev c.args.toList).append (mX hm hb));have hcl := (hk Mem.nil).2.2 Mem.nil (fun _ _ => rfl) R.w0 R.I0 B _ w _ (Kj hm) hrv;unfold Oper.wp Oper.upon;have hrun : (execOp a.eval o).run P w = .ok (.enter f (c.args.toList.map a.eval ++ ids.map B).toArray) w := by
    exact Z6
   rw [hrun];refine hcl.mono ?_;rintro e w' ⟨v, I', rfl, h1, h2, h3, h4⟩;have hIe : ∀ b o, I b o → I b o := fun _ _ h => h
   exact done (hm.grow h1 hIe (fun _ _ h => .inl h)) (hm.ext h1 hIe) (fun _ _ => rfl) (fun t => (hs t).mono (hm.ext h1 hIe) fun _ _ => rfl) (Qd hf h4) (fun j hj => by rw [(hk Mem.nil).2.1] at hj; simp at hj)
end
theorem kP {m m' : Mem} {a : A} (h : ∀ j ∈ a.ids, m' j = m j) : asC m' a = asC m a := by
 cases a with
 | own id => simp only [asC]; rw [h id (by simp [A.ids])]
 | _ => rfl
theorem EC {m m' : Mem} {a : A} (h : ∀ j ∈ a.ids, m' j = m j) : j3 m' a = j3 m a := by
 cases a <;> simp only [j3] <;> rw [kP h]
theorem uP {m m' : Mem} : ∀ {l : List A}, (∀ a ∈ l, ∀ j ∈ a.ids, m' j = m j) → qJ m' l = qJ m l
 | [], _ => rfl
 | a :: l, h => by simp only [qJ]; rw [kP (h a (by simp)), uP fun b hb => h b (by simp [hb])]
theorem KD {m m' : Mem} {a : A} (h : ∀ j ∈ a.ids, m' j = m j) : asL m' a = asL m a := by
 cases a with
 | own id => simp only [asL]; rw [h id (by simp [A.ids])]
 | _ => exact kP h
theorem uo {m m' : Mem} : ∀ {l : List A}, (∀ a ∈ l, ∀ j ∈ a.ids, m' j = m j) → xJ m' l = xJ m l
 | [], _ => rfl
 | a :: l, h => by simp only [xJ]; rw [KD (h a (by simp)), uo fun b hb => h b (by simp [hb])]
theorem OL {T : Tab} {m m' : Mem} {ty : Nat} {l : List A} (h : ∀ a ∈ l, ∀ j ∈ a.ids, m' j = m j) : ld T m' ty l = ld T m ty l := by
 unfold ld;split
 ·rw [uP fun a ha => h a (List.mem_of_mem_take ha)]
 ·rfl
 ·rfl
theorem KC {T : Tab} {s s' : Nat → A} {m m' : Mem} {id : Nat} {op : Op} (hs : ∀ x ∈ op.operands, ev s' x = ev s x) (hm : ∀ j, (m j).isSome = true → m' j = m j) (hl : ∀ x, ∀ j ∈ (ev s x).ids, (m j).isSome = true) (hw : ∀ id o, m id = some o → ∀ j ∈ o.ids, (m j).isSome = true) :
 qv1 T s' m' id op = qv1 T s m id op := by
 have hml : ∀ x, ∀ j ∈ (ev s x).ids, m' j = m j := fun x j hj => hm j (hl x j hj)
 have hac : ∀ x, asC m' (ev s x) = asC m (ev s x) := fun x => kP (hml x)
 cases op with
 | move x => simp only [qv1]; rw [hs x eT]
 | assign x => simp only [qv1]; rw [hs x eT]
 | pick c a b => simp only [qv1]; rw [hs c eT, hs a eT, hs b eT]
 | box ty x => simp only [qv1]; rw [hs x eT]
 | alloc ty => rfl
 | load ty x =>
   simp only [qv1];rw [hs x eT];have hx := hml x;split
   ·rename_i j off e;rw [e] at hx;rw [hx j (by simp [A.ids])];split
    ·rename_i ty' cells hj;rw [OL fun a ha i hi => hm i (hw j _ hj i (List.mem_flatMap.2 ⟨a, List.mem_of_mem_drop ha, hi⟩))]
    ·rfl
   ·rfl
   ·rfl
 | fieldAddr ty x f => simp only [qv1]; rw [hs x eT]
 | field ty x f => simp only [qv1]; rw [hs x eT]
 | indexAddr ty x i => simp only [qv1]; rw [hs x eT, hs i eT, hac x]
 | binOp op ty x y yt => simp only [qv1]; rw [hs x eT, hs y eT]
 | unOp op ty x =>
   cases op with
   | not => simp only [qv1]; rw [hs x eT]
   | _ => rfl
 | extract x i => simp only [qv1]; rw [hs x eT]
 | makeFunc fn first caps =>
   cases fn with
   | func f =>
     simp only [qv1];rw [show caps.toList.map (ev s') = caps.toList.map (ev s) from List.map_congr_left fun x hx => hs x (by simp [Op.operands]; exact .inr oD)]
   | _ => rfl
 | nilCheck x => simp only [qv1]; rw [hs x eT]
 | slice ty x lo hi mx =>
   cases mx with
   | some y => rfl
   | none =>
     simp only [qv1];rw [hs x eT, hac x];rw [show lo.map (ev s') = lo.map (ev s) by cases lo with | none => rfl | some y => simp [hs y eT],
      show hi.map (ev s') = hi.map (ev s) by cases hi with | none => rfl | some y => simp [hs y eT]]
 | build ty parts =>
   exact YG
 | buildSlice ty len parts =>
   exact YG
 | call c =>
   simp only [qv1];split
   ·rename_i x t hc hargs hty;have hx : x ∈ (Op.call c).operands := by
     exact XR
    rw [hs x hx, hac x]
   ·rfl
 | _ => rfl
theorem Lu {m m' : Mem} {a : A} (h : ∀ j ∈ a.ids, m' j = m j) : toR m' a = toR m a := by unfold toR; cases a <;> simp [kP h]
theorem Ll {T : Tab} {s s' : Nat → A} {m m' : Mem} {id : Nat} {op : Op} (hs : ∀ x ∈ op.operands, ev s' x = ev s x) (hm : ∀ j, (m j).isSome = true → m' j = m j) (hl : ∀ x, ∀ j ∈ (ev s x).ids, (m j).isSome = true) :
 qv2 T s' m' id op = qv2 T s m id op := by
 have hml : ∀ x, ∀ j ∈ (ev s x).ids, m' j = m j := fun x j hj => hm j (hl x j hj)
 cases op with
 | buildSlice ty len parts =>
   simp only [qv2];exact Tz
 | build ty parts =>
   simp only [qv2];rw [show (parts.toList.map fun p => (p.1, wF (ev s' p.2))) = parts.toList.map fun p => (p.1, wF (ev s p.2)) from List.map_congr_left fun p hp => by
    have e : ev s' p.2 = ev s p.2 := hs p.2 Y6;simp only [e]]
 | load ty x =>
   simp only [qv2];rw [hs x eT];have hx := hml x;split
   ·rename_i j e i f ex;exact TR
   ·rfl
 | fieldAddr ty x f => simp only [qv2]; rw [hs x eT]
 | field ty x f => simp only [qv2]; rw [hs x eT]
 | indexAddr ty x i =>
   simp only [qv2];rw [hs x eT, hs i eT];have hx := hml x;split
   ·rename_i et n j k kn he ex ei;exact TR
   ·rfl
 | nilCheck x => simp only [qv2]; rw [hs x eT]
 | slice ty x lo hi mx =>
   cases mx with
   | some y => rfl
   | none =>
     simp only [qv2];rw [hs x eT];rw [show lo.map (ev s') = lo.map (ev s) by cases lo with | none => rfl | some y => simp [hs y eT],
      show hi.map (ev s') = hi.map (ev s) by cases hi with | none => rfl | some y => simp [hs y eT]]
     have hx := hml x;split
     ·rename_i et n j he ex;exact TR
     ·rfl
 | makeSlice t l c => simp only [qv2]; rw [hs l eT, hs c eT]
 | makeMap t rs => cases rs <;> rfl
 | lookup t x k ok =>
   simp only [qv2];rw [hs x eT, hs k eT];have hx := hml x;split
   ·split
    ·split
     ·rename_i j ex;exact TR
     ·rfl
     ·rfl
    ·rfl
   ·rfl
 | binOp op t x y pos => simp only [qv2]; rw [hs x eT, hs y eT]
 | convert ta tb x => simp only [qv2]; rw [hs x eT]
 | unOp op ty x =>
   cases op with
   | neg => simp only [qv2]; rw [hs x eT]
   | _ => rfl
 | extract x i => simp only [qv2]; rw [hs x eT]
 | makeInterface t x => simp only [qv2]; rw [hs x eT, Lu (hml x)]
 | call c =>
   simp only [qv2];split
   ·rename_i x t hc hargs hty;have hx : x ∈ (Op.call c).operands := by
     exact XR
    rw [hs x hx];have hy := hml x;split
    ·exact O8
    ·exact O8
    ·rfl
    ·rfl
    ·rfl
   ·exact XI
   ·exact XI
   ·exact Xa
   ·exact Xa
   ·rfl
 | _ => rfl
theorem OX {T : Tab} {s s' : Nat → A} {m m' : Mem} {id : Nat} {op : Op} (hs : ∀ x ∈ op.operands, ev s' x = ev s x) (hm : ∀ j, (m j).isSome = true → m' j = m j) (hl : ∀ x, ∀ j ∈ (ev s x).ids, (m j).isSome = true) (hw : ∀ id o, m id = some o → ∀ j ∈ o.ids, (m j).isSome = true) :
 qv T s' m' id op = qv T s m id op := by
 unfold qv
 rw [KC hs hm hl hw, Ll hs hm hl]
theorem yV {m m' : Mem} {args : List A} (hl : ∀ a ∈ args, ∀ j ∈ a.ids, (m j).isSome = true) (hm : ∀ j, (m j).isSome = true → m' j = m j) (hw : ∀ id o, m id = some o → ∀ j ∈ o.ids, (m j).isSome = true) {j : Nat} :
 (Reach m args j → Reach m' args j ∧ (m j).isSome = true) ∧ (Reach m' args j → Reach m args j ∧ (m j).isSome = true) := by
 constructor
 ·intro h
  induction h with
  | arg h hj => exact ⟨.arg h hj, hl _ h _ hj⟩
  | obj h ho hj ih => exact ⟨.obj ih.1 ((hm _ ih.2).trans ho) hj, hw _ _ ho _ hj⟩
 ·intro h
  induction h with
  | arg h hj => exact ⟨.arg h hj, hl _ h _ hj⟩
  | obj h ho hj ih => rw [hm _ ih.2] at ho; exact ⟨.obj ih.1 ho hj, hw _ _ ho _ hj⟩
theorem sP {m m' : Mem} : ∀ {l l' : List A}, (∀ a ∈ l, ∀ j ∈ a.ids, m' j = m j) → (Cvs m l l' ↔ Cvs m' l l')
 | [], [], _ => Iff.rfl
 | [], _ :: _, _ => Iff.rfl
 | _ :: _, [], _ => Iff.rfl
 | a :: l, a' :: l', h => by
   simp only [Cvs, Cv];rw [kP (h a (by simp)), sP (l := l) (l' := l') fun b hb => h b (by simp [hb])]
theorem Et {m : Mem} : ∀ {l l' : List A}, Cvs m l l' → (∀ a ∈ l, ∀ j ∈ a.ids, (m j).isSome = true) → ∀ a ∈ l', ∀ j ∈ a.ids, (m j).isSome = true
 | [], [], _, h => h
 | a :: l, a' :: l', hc, h => fun b hb j hj => by
   rcases List.mem_cons.1 hb with rfl | hb
   ·rcases hc.1 with e | e | ⟨x, -, e⟩
    ·rw [e] at hj; exact h a (by simp) j hj
    ·rw [e] at hj; simp [A.ids] at hj
    ·rw [e] at hj; simp [A.ids] at hj
   ·exact Et hc.2 (fun b hb => h b (by simp [hb])) b hb j hj
theorem AV {ops : Array Oper} {o : Oper} {s s' : Nat → A} (h : ∀ t ∈ o.looksAt ops, s' t = s t) : ∀ x ∈ o.op.operands, ev s' x = ev s x := fun x hx => by
 cases x with
 | tmp t => exact h t (List.mem_append_left _ (List.mem_filterMap.2 ⟨.tmp t, by simpa using hx, rfl⟩))
 | _ => rfl
section
variable {P : Go.Program} {T : Tab} {base : Nat} {ops : Array Oper}
theorem qE {o : Oper} {s s' : Nat → A} (h : ∀ t ∈ o.looksAt ops, s' t = s t) : eH ops o s' = eH ops o s := by
 unfold eH;split
 ·rfl
 ·rename_i j want hg;have : wV ops s' j = wV ops s j := by
   unfold wV;split
   ·rfl
   ·rename_i d hd;rw [h d (List.mem_append_right _ (by rw [hg]; simp [hd]))]
  rw [this]
theorem HV.both {o : Oper} {st st' : St} {r : A} {ob : Option O} (hs : ∀ t ∈ o.looksAt ops, st'.s t = st.s t) (hm : ∀ j, (st.m j).isSome = true → st'.m j = st.m j) (hw : WF st) :
 (HV P T base ops o st r ob → (ob.isSome = true → st'.m (lH base o) = none) → HV P T base ops o st' r ob) ∧ (HV P T base ops o st' r ob → (ob.isSome = true → st.m (lH base o) = none) → HV P T base ops o st r ob) := by
 have he := AV hs
 have hel : ∀ x, ∀ j ∈ (ev st.s x).ids, (st.m j).isSome = true := uq hw.ids
 have hq := OX (T := T) (id := lH base o) he hm hel hw.live
 have hwt := qE hs
 -- calls
 have hcall : ∀ {c : Call} {x : Operand} {f : FuncId} {ids : List Nat} {args : List A}, o.op = .call c → c.callee = .value x → (ev st.s x = .fn f ids) → 
  ((ev st'.s x = .fn f ids) ∧ c.args.toList.map (ev st'.s) = c.args.toList.map (ev st.s) ∧ (Cvs st.m (c.args.toList.map (ev st.s) ++ ids.map (A.ptr · 0)) args ↔ Cvs st'.m (c.args.toList.map (ev st.s) ++ ids.map (A.ptr · 0)) args) ∧
    (Cvs st.m (c.args.toList.map (ev st.s) ++ ids.map (A.ptr · 0)) args → (COk P f args st.m r ↔ COk P f args st'.m r))) := by
  intro c x f ids args hop hc hx
  have hxo : x ∈ o.op.operands := by rw [hop]; simp [Op.operands, Call.operands, hc]
  have hl : ∀ a ∈ c.args.toList.map (ev st.s) ++ ids.map (A.ptr · 0), ∀ j ∈ a.ids, (st.m j).isSome = true := by
   intro a ha j hj;rcases List.mem_append.1 ha with ha | ha
   ·exact V4
   ·exact VY
  refine ⟨(he x hxo).trans hx, List.map_congr_left fun y hy => he y ?_, sP fun a ha j hj => hm j (hl a ha j hj), fun ha => ?_⟩
  ·rw [hop]; simp [Op.operands, Call.operands, hc]; exact .inr (by simpa using hy)
  ·have hl' := Et ha hl
   have hre := fun j => yV (j := j) hl' hm hw.live
   constructor
   ·rintro ⟨h1, h2, h3⟩
    exact ⟨h1, h2, fun m' hm' => h3 m' fun j hj => (hm' j ((hre j).1 hj).1).trans (hm j ((hre j).1 hj).2)⟩
   ·rintro ⟨h1, h2, h3⟩
    exact ⟨h1, h2, fun m' hm' => h3 m' fun j hj => (hm' j ((hre j).2 hj).1).trans (hm j ((hre j).2 hj).2).symm⟩
 have capsC : ∀ {ids : List Nat}, (∀ j ∈ ids, (st.m j).isSome = true) → nE st'.m ids = nE st.m ids := fun {ids} hi => by
  induction ids with
  | nil => rfl
  | cons j ids ih =>
    simp only [nE];rw [hm j (hi j (by simp))];split
    ·rename_i ty cells hj;rw [uP fun a ha i hia => hm i (hw.live j _ hj i (List.mem_flatMap.2 ⟨a, ha, hia⟩)), ih fun i hi' => hi i (List.mem_cons_of_mem _ hi')]
    ·rfl
 have cvrC : ∀ {l l' : List A}, (∀ a ∈ l, ∀ j ∈ a.ids, (st.m j).isSome = true) → (BU st.m l l' ↔ BU st'.m l l') := fun {l} => by
  induction l with
  | nil => intro l' _; cases l' <;> exact Iff.rfl
  | cons a l ih =>
    intro l' hl;cases l' with
    | nil => exact Iff.rfl
    | cons a' l' =>
      have h1 := hl a (by simp);have hCv : Cv st.m a a' ↔ Cv st'.m a a' := by
       unfold Cv;rw [kP fun j hj => hm j (h1 j hj)]
      refine and_congr (or_congr hCv (or_congr ?_ (or_congr ?_ ?_))) (ih fun b hb => hl b (List.mem_cons_of_mem _ hb))
      ·constructor
       ·rintro ⟨j, ty, cells, xs, e1, hj, hx, e⟩;refine ⟨j, ty, cells, xs, e1, (hm j (by simp [hj])).trans hj, ?_, e⟩;rw [uo fun a ha i hia => hm i (hw.live j _ hj i (List.mem_flatMap.2 ⟨a, ha, hia⟩))]; exact hx
       ·rintro ⟨j, ty, cells, xs, e1, hj, hx, e⟩;have hj' : st.m j = some (.box ty cells) := (hm j (h1 j (by rw [e1]; simp [A.ids]))).symm.trans hj;refine ⟨j, ty, cells, xs, e1, hj', ?_, e⟩;rw [uo fun a ha i hia => hm i (hw.live j _ hj' i (List.mem_flatMap.2 ⟨a, ha, hia⟩))] at hx; exact hx
      ·constructor
       ·rintro ⟨f, ids, caps, e1, hc, e⟩;exact ⟨f, ids, caps, e1, by rw [capsC fun j hj => h1 j (by rw [e1]; exact hj)]; exact hc, e⟩
       ·rintro ⟨f, ids, caps, e1, hc, e⟩;exact ⟨f, ids, caps, e1, by rw [capsC fun j hj => h1 j (by rw [e1]; exact hj)] at hc; exact hc, e⟩
      ·constructor
       ·rintro ⟨j, ty, k, xs, e1, hj, e⟩;exact ⟨j, ty, k, xs, e1, (hm j (by simp [hj])).trans hj, e⟩
       ·rintro ⟨j, ty, k, xs, e1, hj, e⟩;exact ⟨j, ty, k, xs, e1, (hm j (h1 j (by rw [e1]; simp [A.ids]))).symm.trans hj, e⟩
 have argsL : ∀ {c : Call} {x : Operand} {f : FuncId} {ids : List Nat}, ev st.s x = .fn f ids → ∀ a ∈ c.args.toList.map (ev st.s) ++ ids.map (A.ptr · 0), ∀ j ∈ a.ids, (st.m j).isSome = true := by
  intro c x f ids hx a ha j hj;rcases List.mem_append.1 ha with ha | ha
  ·exact V4
  ·exact VY
 have argsE : ∀ {c : Call}, o.op = .call c → c.args.toList.map (ev st'.s) = c.args.toList.map (ev st.s) := fun {c} hop => List.map_congr_left fun y hy => he y (by rw [hop]; simp [Op.operands, Call.operands]; exact .inr (by simpa using hy))
 have valE : ∀ {c : Call} {x : Operand}, o.op = .call c → c.callee = .value x → ev st'.s x = ev st.s x := fun {c x} hop hc => he x (by rw [hop]; simp [Op.operands, Call.operands, hc])
 have argsF : ∀ {c : Call} {caps : List (List C)}, ∀ a ∈ c.args.toList.map (ev st.s) ++ caps.map A.rptr, ∀ j ∈ a.ids, (st.m j).isSome = true := by
  intro c caps a ha j hj;rcases List.mem_append.1 ha with ha | ha
  ·exact V4
  ·obtain ⟨i, hi, rfl⟩ := List.mem_map.1 ha;simp [A.ids] at hj
 have cokE : ∀ {f : FuncId} {l args : List A} {r : A}, Cvs st.m l args → (∀ a ∈ l, ∀ j ∈ a.ids, (st.m j).isSome = true) → (COk P f args st.m r ↔ COk P f args st'.m r) := fun {f l args r} ha hl => by
  have hl' := Et ha hl;have hre := fun j => yV (j := j) hl' hm hw.live
  constructor
  ·rintro ⟨h1, h2, h3⟩;exact ⟨h1, h2, fun m' hm' => h3 m' fun j hj => (hm' j ((hre j).1 hj).1).trans (hm j ((hre j).1 hj).2)⟩
  ·rintro ⟨h1, h2, h3⟩;exact ⟨h1, h2, fun m' hm' => h3 m' fun j hj => (hm' j ((hre j).2 hj).1).trans (hm j ((hre j).2 hj).2).symm⟩
 constructor
 ·intro h hid
  cases h with
  | callF h hop hc hx ha hk =>
    refine .callF (hwt.trans h) hop hc ((valE hop hc).trans hx) (by rw [argsE hop]; exact (sP fun a ha j hj => hm j (argsF a ha j hj)).1 ha) ((cokE ha argsF).1 hk)
  | callR h hop hc hx hb ha hi hf hk =>
    exact .callR (hwt.trans h) hop hc ((valE hop hc).trans hx) (fun j hj => let ⟨ty, cells, e⟩ := hb j hj; ⟨ty, cells, (hm j (by simp [e])).trans e⟩) (by rw [argsE hop]; exact (cvrC (argsL hx)).1 ha) hi hf hk
  | skip h => exact .skip (hwt.trans h)
  | val h h2 h3 hdd => exact .val (hwt.trans h) (hq.trans h2) hid hdd
  | call h hop hc hx hb ha hk =>
    obtain ⟨k1, k2, k3, k4⟩ := hcall hop hc hx;exact .call (hwt.trans h) hop hc k1 (fun j hj => let ⟨ty, cells, e⟩ := hb j hj; ⟨ty, cells, (hm j (by simp [e])).trans e⟩) (by rw [k2]; exact k3.1 ha) ((k4 ha).1 hk)
 ·intro h hid
  cases h with
  | callF h hop hc hx ha hk =>
    rw [argsE hop] at ha;have ha' := (sP fun a ha j hj => hm j (argsF a ha j hj)).2 ha;exact .callF (hwt.symm.trans h) hop hc ((valE hop hc).symm.trans hx) ha' ((cokE ha' argsF).2 hk)
  | callR h hop hc hx hb ha hi hf hk =>
    have hx' := (valE hop hc).symm.trans hx;rw [argsE hop] at ha;exact .callR (hwt.symm.trans h) hop hc hx' (fun j hj => let ⟨ty, cells, e⟩ := hb j hj; ⟨ty, cells, (hm j (hel _ j (by rw [hx']; exact hj))).symm.trans e⟩) ((cvrC (argsL hx')).2 ha) hi hf hk
  | skip h => exact .skip (hwt.symm.trans h)
  | val h h2 h3 hdd => exact .val (hwt.symm.trans h) (hq.symm.trans h2) hid hdd
  | @call _ c x f ids args h hop hc hx hb ha hk =>
    have hxo : x ∈ o.op.operands := by rw [hop]; simp [Op.operands, Call.operands, hc]
    have hx' : ev st.s x = .fn f ids := (he x hxo).symm.trans hx;obtain ⟨k1, k2, k3, k4⟩ := hcall (args := args) hop hc hx';rw [k2] at ha;have ha' := k3.2 ha;exact .call (hwt.symm.trans h) hop hc hx' (fun j hj => let ⟨ty, cells, e⟩ := hb j hj; ⟨ty, cells, (hm j (hel x j (by rw [hx']; exact hj))).symm.trans e⟩) ha' ((k4 ha').2 hk)
def wm (cells : List A) (off : Nat) (l : List A) : List A := cells.take off ++ (l ++ cells.drop (off + l.length))
def rG (cells : List C) (off : Nat) (l : List C) : List C := cells.take off ++ (l ++ cells.drop (off + l.length))
def yx : A → Option (List C)
 | .c x => some [x]
 | .agg xs => some xs
 | .nil => some [.sl []]
 | .nn xs => some [.sl xs]
 | _ => none
def qM : A → Option Nat
 | .ptr j _ => some j
 | .eptr j _ _ _ => some j
 | _ => none
def stO (T : Tab) (ty : Nat) (a v : A) : O → Option O
 | .box ty0 cells => match a, T.ty ty, gG v with
   | .ptr _ off, some (n, _), some l => if l.length = n ∧ off + l.length ≤ cells.length then some (.box ty0 (wm cells off l)) else none
   | _, _, _ => none
 | .mrow ty0 e xs => match a, T.ty ty, yx v with
   | .eptr _ e' i f, some (n, _), some l => if e' = e ∧ l.length = n ∧ f + l.length ≤ e then (match xs[i]? with | some cs => some (.mrow ty0 e (xs.set i (rG cs f l))) | none => none) else none
   | _, _, _ => none
 | .rows ty0 xs => match a, T.ty ty, gG v with
   | .eptr _ e i f, some (n, _), some [b] => if e = 1 ∧ n = 1 ∧ f = 0 ∧ i < xs.length then (match b.down with | some y => some (.rows ty0 (xs.set i y)) | none => none) else none
   | _, _, _ => none
 | _ => none
structure HStore (T : Tab) (ops : Array Oper) (o : Oper) (st : St) (ty : Nat) (x v : Operand) (j : Nat) (b b' : O) : Prop where
 want : eH ops o st.s = some true
 op : o.op = .store ty x v
 dst : o.dst = none
 at_ : qM (ev st.s x) = some j
 box : st.m j = some b
 new : stO T ty (ev st.s x) (ev st.s v) b = some b'
inductive Kind where | slot | read | store | barrier
 deriving DecidableEq
def kind (T : Tab) : Op → Kind
 | .move _ | .assign _ | .pick .. | .box .. | .alloc _ | .fieldAddr .. | .field .. | .binOp .. | .unOp .. | .extract .. | .makeFunc .. | .nilCheck _ | .makeSlice .. | .makeMap .. | .convert .. => .slot
 | .load .. | .indexAddr .. | .slice .. | .build .. | .buildSlice .. | .makeInterface .. | .lookup .. => .read
 | .call c => match c.callee with | .value (.func f) => if T.eff f = true then .barrier else .read | .builtin .len => .read | .builtin .min => .slot | .builtin .max => .slot | _ => .barrier
 | .store .. => .store
 | _ => .barrier
def indep (T : Tab) (ops : Array Oper) (x y : Oper) : Bool := x.apart ops y && (match kind T x.op, kind T y.op with
 | .slot, .slot | .slot, .read | .read, .slot | .read, .read | .store, .slot | .slot, .store => true
 | _, _ => false)
structure Eff (P : Go.Program) (T : Tab) (kp : Nat → Prop) (ops : Array Oper) (o : Oper) (st st' : St) : Prop where
 bar : kind T o.op = .barrier
 wf : WF st → WF st'
 run : ∀ (R : Ref) (n : Nat) (ds : List Deferred) (a : Act) (w : World) (K : Act → World → Prop) (Q : Exit → Act → World → Prop), R.keep = kp → SR R n ds st a w → (∀ d, o.dst = some d → d < n) → (∀ a' w', SR R n ds st' a' w' → K a' w') →
  if Region.wanted o (yielded ops a.tmps) = true then o.wp P a w K Q else K (a.put o.dst undef) w
inductive HS (P : Go.Program) (T : Tab) (kp : Nat → Prop) (base : Nat) (ops : Array Oper) (o : Oper) (st : St) : St → Prop where
 | val {r : A} {ob : Option O} (h : HV P T base ops o st r ob) : HS P T kp base ops o st ⟨eY st.s o.dst r, st.m.put (lH base o) ob⟩
 | store {ty j : Nat} {x v : Operand} {b b' : O} (h : HStore T ops o st ty x v j b b') : HS P T kp base ops o st ⟨st.s, upd st.m j (some b')⟩
 | eff {st' : St} (h : Eff P T kp ops o st st') : HS P T kp base ops o st st'
theorem HV.new {o : Oper} {st : St} {r : A} {ob : Option O} (h : HV P T base ops o st r ob) : ob.isSome = true → st.m (lH base o) = none ∧ ∃ d, o.dst = some d ∧ lH base o = base + d := by
 intro hob;cases h with
 | skip => cases hob
 | val h hq hid hd =>
   have := hd hob;cases hdst : o.dst with
   | none => rw [hdst] at this; cases this
   | some d => exact ⟨hid hob, d, rfl, by simp [lH, hdst]⟩
 | call => cases hob
 | callF => cases hob
 | callR => cases hob
theorem mh {s : Nat → A} {dst : Option Nat} {r : A} {l : List Nat} (h : ∀ d, dst = some d → d ∉ l) : ∀ t ∈ l, eY s dst r t = s t := by
 intro t ht;cases dst with
 | none => rfl
 | some d => exact upd_ne _ _ (fun e => h d rfl (e ▸ ht))
theorem tC {m : Mem} {id : Nat} {ob : Option O} (h : ob.isSome = true → m id = none) : ∀ j, (m j).isSome = true → m.put id ob j = m j := by
 intro j hj;cases ob with
 | none => rfl
 | some x => exact upd_ne _ _ (fun e => by subst e; rw [h rfl] at hj; cases hj)
theorem Oo {m : Mem} {id k : Nat} {ob : Option O} (h : m.put id ob k = none) : m k = none := by
 cases ob with
 | none => exact h
 | some x =>
   simp only [Mem.put, upd] at h;split at h
   ·cases h
   ·exact h
theorem KU {s : Nat → A} {x y : Option Nat} (r q : A) (h : ∀ d, x = some d → y ≠ some d) : eY (eY s x r) y q = eY (eY s y q) x r := by
 cases x with
 | none => rfl
 | some d =>
   cases y with
   | none => rfl
   | some e =>
     have hne : d ≠ e := fun k => h d rfl (k ▸ rfl)
     funext t
     simp only [eY, upd]
     by_cases h1 : t = d <;> by_cases h2 : t = e <;> simp [h1, h2]
     ·subst h1; subst h2; exact absurd rfl hne
     ·intro k; exact absurd k hne
     ·exact TJ
theorem put_comm {m : Mem} {i j : Nat} {x y : Option O} (h : x.isSome = true → y.isSome = true → i ≠ j) : (m.put i x).put j y = (m.put j y).put i x := by
 cases x with
 | none => rfl
 | some x =>
   cases y with
   | none => rfl
   | some y =>
     have hne := h rfl rfl
     funext t
     simp only [Mem.put, upd]
     by_cases h1 : t = i <;> by_cases h2 : t = j <;> simp [h1, h2]
     ·subst h1; subst h2; exact absurd rfl hne
     ·intro k; exact absurd k hne
     ·exact TJ
theorem JB {s : Nat → A} {m m' : Mem} {id : Nat} {op : Op} (h : kind T op = .slot) : qv T s m' id op = qv T s m id op := by
 have h1 : qv1 T s m' id op = qv1 T s m id op := by
  cases op with
  | call c =>
    simp only [kind] at h;simp only [qv1];split
    ·exact MW
    ·rfl
  | unOp u _ _ => cases u <;> rfl
  | makeFunc fn _ _ => cases fn <;> rfl
  | _ => first | rfl | cases h
 have h2 : qv2 T s m' id op = qv2 T s m id op := by
  cases op with
  | call c =>
    simp only [kind] at h;simp only [qv2];split
    ·exact MW
    ·rfl
    ·rfl
    ·rfl
    ·rfl
    ·rfl
  | unOp u _ _ => cases u <;> rfl
  | makeFunc fn _ _ => cases fn <;> rfl
  | makeMap t rs => cases rs <;> rfl
  | _ => first | rfl | cases h
 unfold qv;rw [h1, h2]
theorem mo {c : Call} {x : Operand} (hc : c.callee = .value x) : kind T (.call c) ≠ .slot := by
 simp only [kind, hc];cases x <;> simp
 split <;> simp
theorem AO {kp : Nat → Prop} {oi oj : Oper} {st st' : St} (h : Eff P T kp ops oi st st') : indep T ops oi oj = false ∧ indep T ops oj oi = false := by
 simp only [indep, h.bar];cases kind T oj.op <;> simp
theorem JM {m : Mem} {id j : Nat} {x : O} {ob : Option O} (hne : ob.isSome = true → id ≠ j) : upd (m.put id ob) j (some x) = Mem.put (upd m j (some x)) id ob := by
 cases ob with
 | none => rfl
 | some y =>
   have hne := hne rfl
   funext t
   simp only [Mem.put, upd]
   by_cases h1 : t = id <;> by_cases h2 : t = j <;> simp [h1, h2]
   ·subst h1; exact absurd h2 hne
   ·intro k; exact absurd k hne
   ·exact TJ
theorem HS.comm {kp : Nat → Prop} {oi oj : Oper} {st st1 st2 : St} (hind : indep T ops oi oj = true) (hw : WF st) (h1 : HS P T kp base ops oi st st1) (h2 : HS P T kp base ops oj st1 st2) : ∃ st3, HS P T kp base ops oj st st3 ∧ HS P T kp base ops oi st3 st2 := by
 have hind0 := hind;simp only [indep, Bool.and_eq_true] at hind;obtain ⟨hap, hk⟩ := hind;obtain ⟨a1, a2, a3⟩ := Oper.apart_spec hap;cases h1 with
 | eff h => rw [(AO h).1] at hind0; cases hind0
 | @val ri obi hi =>
   have ni := hi.new;cases h2 with
   | eff h => rw [(AO h).2] at hind0; cases hind0
   | @val rj obj hj =>
     have nj := hj.new;have hj' := (HV.both (st := st) (mh a1) (tC fun h => (ni h).1) hw).2 hj (fun h => Oo (nj h).1);refine ⟨_, .val hj', ?_⟩;have nj' := hj'.new;have hne : obi.isSome = true → obj.isSome = true → lH base oi ≠ lH base oj := fun h h' e => by
      obtain ⟨-, d, hd, e1⟩ := ni h;obtain ⟨-, d', hd', e2⟩ := nj' h';have hdd := e1.symm.trans (e.trans e2);have : d = d' := Nat.add_left_cancel hdd;subst this;exact a2 d hd hd'
     have hi' := (HV.both (st := st) (st' := ⟨eY st.s oj.dst rj, st.m.put (lH base oj) obj⟩) (mh a3) (tC fun h => (nj' h).1) hw).1 hi (fun h => by
      cases obj with
      | none => exact (ni h).1
      | some y => simp only [Mem.put]; rw [upd_ne _ _ (hne h rfl)]; exact (ni h).1)
     have := HS.val (kp := kp) hi';dsimp only at this ⊢;rw [KU ri rj a2, put_comm hne];exact this
   | @store ty j x v b b' hs =>
     -- oi looks at slots alone, or was passed over
     have hnk : kind T oj.op = .store := by rw [hs.op]; rfl
     rw [hnk] at hk
     have hki' : kind T oi.op = .slot := by
      revert hk
      cases kind T oi.op <;> simp
     have he := AV (ops := ops) (o := oj) (s := st.s) (s' := eY st.s oi.dst ri) (mh a1)
     have ex : ev (eY st.s oi.dst ri) x = ev st.s x := he x Km
     have ev' : ev (eY st.s oi.dst ri) v = ev st.s v := he v Km
     have hat : qM (ev st.s x) = some j := by rw [← ex]; exact hs.at_
     have hjl : (st.m j).isSome = true := uq hw.ids x j (by revert hat; cases ev st.s x <;> simp [qM, A.ids] <;> exact fun e => e.symm)
     have hbox : st.m j = some b := by rw [← tC (fun h => (ni h).1) j hjl]; exact hs.box
     have hs' : HStore T ops oj st ty x v j b b' := ⟨(qE (mh a1)).symm.trans hs.want, hs.op, hs.dst, hat, hbox, by rw [← ex, ← ev']; exact hs.new⟩
     refine ⟨_, .store hs', ?_⟩
     have hni : obi.isSome = true → lH base oi ≠ j := fun h e => by rw [← e, (ni h).1] at hjl; cases hjl
     have hi' : HV P T base ops oi ⟨st.s, upd st.m j (some b')⟩ ri obi := by
      cases hi with
      | skip h => exact .skip h
      | val h hq hid hd => exact .val h (by rw [← hq]; exact JB hki') (fun h => by show upd _ _ _ _ = _; rw [upd_ne _ _ (hni h)]; exact hid h) hd
      | call h hop hc => rw [hop] at hki'; exact absurd hki' (mo hc)
      | callF h hop hc => rw [hop] at hki'; exact absurd hki' (mo hc)
      | callR h hop hc => rw [hop] at hki'; exact absurd hki' (mo hc)
     have := HS.val (kp := kp) hi'
     dsimp only at this ⊢
     rw [JM hni]
     exact this
 | @store ty j x v b b' hs =>
   have hnk : kind T oi.op = .store := by rw [hs.op]; rfl
   rw [hnk] at hk;have hkj' : kind T oj.op = .slot := by
    revert hk
    cases kind T oj.op <;> simp
   cases h2 with
   | eff h => rw [(AO h).2] at hind0; cases hind0
   | @val rj obj hj =>
     have nj := hj.new;have hjl : (st.m j).isSome = true := by simp [hs.box]
     have nj0 : obj.isSome = true → st.m (lH base oj) = none ∧ lH base oj ≠ j := fun h => by
      have := (nj h).1;simp only [upd] at this;split at this
      ·cases this
      ·rename_i e; exact ⟨this, e⟩
     have hj' : HV P T base ops oj st rj obj := by
      cases hj with
      | skip h => exact .skip h
      | val h hq hid hd => exact .val h (by rw [← hq]; exact JB hkj') (fun h => (nj0 h).1) hd
      | call h hop hc => rw [hop] at hkj'; exact absurd hkj' (mo hc)
      | callF h hop hc => rw [hop] at hkj'; exact absurd hkj' (mo hc)
      | callR h hop hc => rw [hop] at hkj'; exact absurd hkj' (mo hc)
     refine ⟨_, .val hj', ?_⟩;have he := AV (ops := ops) (o := oi) (s := st.s) (s' := eY st.s oj.dst rj) (mh a3);have ex : ev (eY st.s oj.dst rj) x = ev st.s x := he x Km;have ev' : ev (eY st.s oj.dst rj) v = ev st.s v := he v Km;have hs' : HStore T ops oi ⟨eY st.s oj.dst rj, st.m.put (lH base oj) obj⟩ ty x v j b b' :=
      ⟨(qE (mh a3)).trans hs.want, hs.op, hs.dst, by rw [ex]; exact hs.at_, (tC (fun h => (nj0 h).1) j hjl).trans hs.box, by rw [ex, ev']; exact hs.new⟩
     have := HS.store (P := P) (base := base) (kp := kp) hs';dsimp only at this ⊢;rw [← JM fun h => (nj0 h).2];exact this
   | @store _ _ _ _ _ _ hs2 =>
     have hnk2 : kind T oj.op = .store := by rw [hs2.op]; rfl
     rw [hnk2] at hkj';cases hkj'
end
section
variable {P : Go.Program} {T : Tab} {base : Nat} {ops : Array Oper}
theorem XE {s : Nat → A} {m : Mem} {id : Nat} {op : Op} {r : A} {ob : Option O} (hl : ∀ x, ∀ j ∈ (ev s x).ids, (m j).isSome = true) (hw : ∀ id o, m id = some o → ∀ j ∈ o.ids, (m j).isSome = true) (h : qv1 T s m id op = some (r, ob)) :
 (∀ j ∈ r.ids, (m.put id ob j).isSome = true) ∧ ∀ o, ob = some o → ∀ j ∈ o.ids, (m.put id ob j).isSome = true := by
 have two : ∀ {r' : A} {ob' : Option O}, ob' = none → (∀ j ∈ r'.ids, (m j).isSome = true) → (r', ob') = (r, ob) → (∀ j ∈ r.ids, (m.put id ob j).isSome = true) ∧ ∀ o, ob = some o → ∀ j ∈ o.ids, (m.put id ob j).isSome = true := by
  intro r' ob' e h1 h2;cases h2; subst e
  exact ⟨h1, fun o h => by cases h⟩
 have none_ : ∀ {r' : A}, r'.ids = [] → ∀ j ∈ r'.ids, (m j).isSome = true := fun e j hj => by rw [e] at hj; simp at hj
 have new : ∀ {ty : Nat} {l : List A}, (∀ j ∈ l.flatMap A.ids, (m j).isSome = true) → (A.ptr id 0, some (O.box ty l)) = (r, ob) → (∀ j ∈ r.ids, (m.put id ob j).isSome = true) ∧ ∀ o, ob = some o → ∀ j ∈ o.ids, (m.put id ob j).isSome = true := by
  intro ty l h1 h2;cases h2
  refine ⟨fun j hj => ?_, fun o ho j hj => ?_⟩
  ·simp [A.ids] at hj; subst hj; simp [Mem.put, upd]
  ·cases ho; exact qU (h1 j hj)
 cases op with
 | move x => exact two rfl (hl x) (Option.some.inj h)
 | assign x => exact two rfl (hl x) (Option.some.inj h)
 | pick c a b =>
   simp only [qv1] at h;split at h
   ·exact two rfl (hl a) (Option.some.inj h)
   ·exact two rfl (hl b) (Option.some.inj h)
   ·cases h
 | box ty x =>
   simp only [qv1] at h;split at h
   ·rename_i l e; exact new (fun j hj => hl x j (mJ e j hj)) (Option.some.inj h)
   ·cases h
 | alloc ty =>
   simp only [qv1] at h;split at h
   ·exact new (fun j hj => by
     simp only [List.mem_flatMap, List.mem_map] at hj;obtain ⟨_, ⟨x, -, rfl⟩, h⟩ := hj;simp [iH] at h) (Option.some.inj h)
   ·cases h
 | load ty x =>
   simp only [qv1] at h;split at h
   ·split at h
    ·rename_i ty' cells hj;split at h
     ·rename_i r' e3;refine two rfl ?_ (Option.some.inj h);unfold ld at e3;split at e3
      ·split at e3
       ·split at e3
        ·cases e3; exact none_ rfl
        ·split at e3
         ·rename_i ys hys;cases e3
          intro j hj';obtain ⟨x, hx1, hx2⟩ := List.mem_flatMap.1 (mg hys j hj');exact hw _ _ hj j (List.mem_flatMap.2 ⟨x, List.mem_of_mem_drop (List.mem_of_mem_take hx1), hx2⟩)
         ·cases e3
       ·cases e3
      ·rename_i off _ _ _ _ _;intro j hj';have : r' ∈ cells := List.mem_of_mem_drop (List.mem_of_mem_head? e3);exact hw _ _ hj j (List.mem_flatMap.2 ⟨r', this, hj'⟩)
      ·cases e3
     ·cases h
    ·cases h
   ·split at h
    ·rename_i r' e3;refine two rfl ?_ (Option.some.inj h);unfold ldR at e3;split at e3
     ·exact UD
     ·exact UD
     ·cases e3
    ·cases h
   ·cases h
 | fieldAddr ty x f =>
   simp only [qv1] at h;split at h
   ·split at h
    ·rename_i e; exact two rfl (fun i hi => hl x i (by rw [e]; exact hi)) (Option.some.inj h)
    ·exact UJ
    ·cases h
   ·cases h
 | field ty x f =>
   simp only [qv1] at h;split at h
   ·exact UJ
   ·exact UL
   ·cases h
 | indexAddr ty x i =>
   simp only [qv1] at h;exact aad
 | binOp op ty x y yt =>
   exact JO
 | unOp op ty x =>
   cases op with
   | not =>
     exact JO
   | _ => cases h
 | extract x i =>
   simp only [qv1] at h;split at h
   ·exact Uh
   ·cases h
 | makeFunc fn first caps =>
   cases fn with
   | func f =>
     simp only [qv1] at h;split at h
     ·split at h
      ·rename_i ids hids;refine two rfl (fun j hj => ?_) (Option.some.inj h);have : ∀ {l : List Operand} {ids : List Nat}, jP (l.map (ev s)) = some ids → ∀ j ∈ ids, ∃ x, j ∈ (ev s x).ids := by
        intro l;induction l with
        | nil => intro ids h j hj; simp [jP] at h; subst h; simp at hj
        | cons x l ih =>
          intro ids h j hj;cases hx : ev s x with
          | ptr id off =>
            cases off with
            | zero =>
              simp only [List.map_cons, hx, jP] at h;split at h
              ·rename_i ids' h';cases h
               rcases List.mem_cons.1 hj with rfl | hj
               ·exact ⟨x, by simp [hx, A.ids]⟩
               ·exact ih h' j hj
              ·cases h
            | succ n => simp [hx, jP] at h
          | _ => simp [hx, jP] at h
       obtain ⟨x, hx⟩ := this hids j hj;exact hl x j hx
      ·cases h
     ·cases h
   | _ => cases h
 | nilCheck x =>
   simp only [qv1] at h;have hx := hl x;split at h
   ·exact Pk
   ·exact Pk
   ·exact Pk
   ·cases h
 | slice ty x lo hi mx =>
   cases mx with
   | some y => cases h
   | none =>
     simp only [qv1] at h;split at h
     ·split at h
      ·rename_i r' e;refine two rfl ?_ (Option.some.inj h);unfold zm at e;split at e
       ·split at e
        ·cases e; exact none_ rfl
        ·cases e
       ·cases e
      ·cases h
     ·cases h
 | build ty parts =>
   exact SK
 | buildSlice ty len parts =>
   simp only [qv1] at h;split at h
   ·cases h
   split at h
   ·split at h
    ·exact WE
    ·cases h
   ·cases h
 | call c =>
   exact SK
 | _ => cases h
theorem Db {k : A1} : ∀ {l : List (A1 × A1)} {q : Nat} {v : A1}, gu k l = some (some (q, v)) → ∃ k', (k', v) ∈ l
 | [], q, v, h => by simp [gu] at h
 | p :: l, q, v, h => by
   simp only [gu] at h;split at h
   ·cases h; exact ⟨p.1, by simp⟩
   ·split at h
    ·rename_i hf;cases h
     obtain ⟨k', hk'⟩ := Db hf;exact ⟨k', List.mem_cons_of_mem _ hk'⟩
    ·cases h
    ·cases h
   ·cases h
theorem KF {T : Tab} {t : Nat} {z : A1} (h : yu T t = some z) : z.ids = [] := by
 unfold yu at h;split at h
 ·rename_i v hv;exact Tg
 ·split at h
  ·split at h
   ·cases h; rfl
   ·cases h
  ·cases h
theorem Xq {s : Nat → A} {m : Mem} {id : Nat} {op : Op} {r : A} {ob : Option O} (hl : ∀ x, ∀ j ∈ (ev s x).ids, (m j).isSome = true) (hw : ∀ id o, m id = some o → ∀ j ∈ o.ids, (m j).isSome = true) (h : qv2 T s m id op = some (r, ob)) :
 (∀ j ∈ r.ids, (m.put id ob j).isSome = true) ∧ ∀ o, ob = some o → ∀ j ∈ o.ids, (m.put id ob j).isSome = true := by
 have two : ∀ {r' : A} {ob' : Option O}, ob' = none → (∀ j ∈ r'.ids, (m j).isSome = true) → (r', ob') = (r, ob) → (∀ j ∈ r.ids, (m.put id ob j).isSome = true) ∧ ∀ o, ob = some o → ∀ j ∈ o.ids, (m.put id ob j).isSome = true := by
  intro r' ob' e h1 h2;cases h2; subst e
  exact ⟨h1, fun o h => by cases h⟩
 have none_ : ∀ {r' : A}, r'.ids = [] → ∀ j ∈ r'.ids, (m j).isSome = true := fun e j hj => by rw [e] at hj; simp at hj
 have new : ∀ {z : O} {r' : A}, r'.ids = [id] → z.ids = [] → (r', some z) = (r, ob) → (∀ j ∈ r.ids, (m.put id ob j).isSome = true) ∧ ∀ o, ob = some o → ∀ j ∈ o.ids, (m.put id ob j).isSome = true := by
  intro z r' h0 h1 h2;cases h2
  refine ⟨fun j hj => ?_, fun o ho j hj => ?_⟩
  ·rw [h0] at hj; simp at hj; subst hj; simp [Mem.put, upd]
  ·cases ho; rw [h1] at hj; simp at hj
 cases op with
 | buildSlice ty len parts =>
   simp only [qv2] at h;split at h
   ·split at h
    ·split at h
     ·split at h
      ·exact Js
      ·cases h
     ·cases h
    ·cases h
   ·cases h
 | build ty parts =>
   simp only [qv2] at h;split at h
   ·split at h
    ·rename_i z1 hz;split at h
     ·rename_i xs hf;refine two rfl (fun j hj => ?_) (Option.some.inj h);refine xV (Q := fun j => (m j).isSome = true) _ z1 xs (fun j hj => (BF hz j hj).elim) (fun p hp ys hy j hj => ?_) hf j hj;obtain ⟨q, -, rfl⟩ := List.mem_map.1 hp;exact hl q.2 j (DN hy j hj)
     ·cases h
    ·cases h
   ·cases h
 | load ty x =>
   simp only [qv2] at h;split at h
   ·rename_i j e i f ex;split at h
    ·split at h
     ·split at h
      ·split at h
       ·rename_i r' e3;refine two rfl (none_ ?_) (Option.some.inj h);unfold ldR at e3;split at e3
        ·split at e3 <;> cases e3; rfl
        ·split at e3 <;> cases e3; rfl
        ·cases e3
       ·cases h
      ·cases h
     ·cases h
    ·rename_i ty' xs hj;split at h
     ·split at h
      ·rename_i n y hty hy;refine two rfl (fun q hq => ?_) (Option.some.inj h);rw [xQ] at hq;exact hw j _ hj q (List.mem_flatMap.2 ⟨y, List.mem_of_getElem? hy, hq⟩)
      ·cases h
     ·cases h
    ·cases h
   ·cases h
 | fieldAddr ty x f =>
   simp only [qv2] at h;split at h
   ·rename_i o' n g j e i g' ho ex;exact TA
   ·cases h
 | field ty x f =>
   simp only [qv2] at h;split at h
   ·rename_i o' n xs ho ex;refine two rfl (fun q hq => ?_) (Option.some.inj h);obtain ⟨y, hy1, hy2⟩ := List.mem_flatMap.1 hq;exact hl x q ZW
   ·rename_i o' n xs ho ex;exact Vl
   ·cases h
 | indexAddr ty x i =>
   simp only [qv2] at h;split at h
   ·rename_i et n j k kn he ex ei;have hj : (m j).isSome = true := hl x j (by rw [ex]; simp [A.ids]);split at h
    ·exact UR
    ·exact UR
    ·cases h
   ·cases h
 | nilCheck x =>
   simp only [qv2] at h;split at h
   ·rename_i j e i f ex;exact TA
   ·rename_i j ex;exact TA
   ·exact UJ
   ·cases h
 | slice ty x lo hi mx =>
   cases mx with
   | some _ => simp [qv2] at h
   | none =>
     simp only [qv2] at h;split at h
     ·rename_i et n j he ex;have hj : (m j).isSome = true := hl x j (by rw [ex]; simp [A.ids]);split at h
      ·split at h
       ·split at h
        ·exact UR
        ·cases h
       ·cases h
      ·cases h
     ·cases h
 | makeSlice t l c =>
   simp only [qv2] at h;split at h
   ·split at h
    ·split at h
     ·split at h
      ·refine new rfl ?_ (Option.some.inj h);refine List.eq_nil_iff_forall_not_mem.2 fun q hq => ?_;obtain ⟨y, hy1, hy2⟩ := List.mem_flatMap.1 hq;exact V5
      ·split at h
       ·exact new rfl rfl (Option.some.inj h)
       ·split at h
        ·rename_i v;split at h
         ·rename_i z' hz';refine new rfl ?_ (Option.some.inj h);refine List.eq_nil_iff_forall_not_mem.2 fun q hq => ?_;obtain ⟨y, hy1, hy2⟩ := List.mem_flatMap.1 hq;rw [List.eq_of_mem_replicate hy1] at hy2;have := iU hz' q hy2;rw [iH] at this;simp at this
         ·cases h
        ·cases h
     ·cases h
    ·cases h
   ·cases h
 | makeMap t rs =>
   cases rs with
   | some _ => simp [qv2] at h
   | none =>
     simp only [qv2] at h;exact Js
 | lookup t x k ok =>
   simp only [qv2] at h;split at h
   ·rename_i kt e key ht hkey;split at h
    ·split at h
     ·rename_i j ex;split at h
      ·rename_i ents hj;split at h
       ·rename_i q v hf;refine two rfl (fun i hi => ?_) (Option.some.inj h);obtain ⟨k', hk'⟩ := Db hf;exact hw j _ hj i (List.mem_flatMap.2 ⟨(k', v), hk', List.mem_append_right _ (lq i hi)⟩)
       ·exact Zb
       ·cases h
      ·unfold JE at h;split at h
       ·exact two rfl (fun i hi => by simp [A.ids] at hi) (Option.some.inj h)
       ·cases h
      ·cases h
     ·exact Zb
     ·cases h
    ·cases h
   ·cases h
 | binOp op t x y pos =>
   simp only [qv2] at h;exact aad
 | convert ta tb x =>
   exact S9
 | unOp op ty x =>
   cases op with
   | neg =>
     exact S9
   | _ => simp [qv2] at h
 | extract x i =>
   simp only [qv2] at h;split at h
   ·rename_i xs ex;exact Vl
   ·cases h
 | makeInterface t x =>
   simp only [qv2] at h;exact WE
 | call c =>
   simp only [qv2] at h;split at h
   ·split at h
    ·exact Uh
    ·exact WE
    ·exact UL
    ·exact UL
    ·cases h
   ·exact WE
   ·exact WE
   ·exact WE
   ·exact WE
   ·cases h
 | _ => simp [qv2] at h
theorem ZV {s : Nat → A} {m : Mem} {id : Nat} {op : Op} {r : A} {ob : Option O} (hl : ∀ x, ∀ j ∈ (ev s x).ids, (m j).isSome = true) (hw : ∀ id o, m id = some o → ∀ j ∈ o.ids, (m j).isSome = true) (h : qv T s m id op = some (r, ob)) :
 (∀ j ∈ r.ids, (m.put id ob j).isSome = true) ∧ ∀ o, ob = some o → ∀ j ∈ o.ids, (m.put id ob j).isSome = true := by
 unfold qv at h
 split at h
 ·rename_i r' h1; cases h; exact XE hl hw h1
 ·exact Xq hl hw h
theorem J3 {ty : Nat} {a v : A} {b b' : O} (h : stO T ty a v b = some b') : ∀ i ∈ b'.ids, i ∈ b.ids ∨ i ∈ v.ids := by
 intro i hi;cases b with
 | box ty0 cells =>
   simp only [stO] at h;split at h
   ·rename_i id off n g l hty hc;split at h
    ·cases h
     simp only [O.ids, wm, List.flatMap_append, List.mem_append] at hi ⊢;rcases hi with hi | hi | hi
     ·obtain ⟨z, hz, hq⟩ := List.mem_flatMap.1 hi;exact .inl (List.mem_flatMap.2 ⟨z, List.mem_of_mem_take hz, hq⟩)
     ·exact .inr (mJ hc i hi)
     ·obtain ⟨z, hz, hq⟩ := List.mem_flatMap.1 hi;exact .inl (List.mem_flatMap.2 ⟨z, List.mem_of_mem_drop hz, hq⟩)
    ·cases h
   ·cases h
 | mrow ty0 e xs =>
   simp only [stO] at h;split at h
   ·split at h
    ·split at h
     ·cases h; simp [O.ids] at hi
     ·cases h
    ·cases h
   ·cases h
 | rows ty0 xs =>
   simp only [stO] at h;split at h
   ·rename_i id e i' f n g b hty hc;split at h
    ·split at h
     ·rename_i y hy;cases h
      obtain ⟨z, hz, hq⟩ := List.mem_flatMap.1 hi;rcases List.mem_or_eq_of_mem_set hz with hz | rfl
      ·exact .inl (List.mem_flatMap.2 ⟨z, hz, hq⟩)
      ·exact .inr (mJ hc i (by simpa using iU hy i hq))
     ·cases h
    ·cases h
   ·cases h
 | _ => simp [stO] at h
theorem HS.wf {kp : Nat → Prop} {o : Oper} {st st' : St} (hw : WF st) (h : HS P T kp base ops o st st') : WF st' := by
 cases h with
 | eff h => exact h.wf hw
 | @val r ob h =>
   have hr : (∀ j ∈ r.ids, (st.m.put (lH base o) ob j).isSome = true) ∧ ∀ x, ob = some x → ∀ j ∈ x.ids, (st.m.put (lH base o) ob j).isSome = true := by
    cases h with
    | skip h => exact ⟨fun j hj => by simp [A.ids] at hj, fun x hx => by cases hx⟩
    | val h hq => exact ZV (uq hw.ids) hw.live hq
    | call h hop hc hx hb ha hk2 => exact ⟨fun j hj => by rw [hk2.2.1] at hj; simp at hj, fun x hx => by cases hx⟩
    | callF h hop hc hx ha hk2 => exact ⟨fun j hj => by rw [hk2.2.1] at hj; simp at hj, fun x hx => by cases hx⟩
    | callR h hop hc hx hb ha hi hf hk2 => exact ⟨fun j hj => by rw [(hk2 Mem.nil).2.1] at hj; simp at hj, fun x hx => by cases hx⟩
   refine ⟨wR (fun t j hj => qU (hw.ids t j hj)) hr.1, fun id x hx j hj => ?_⟩;cases ob with
   | none => exact hw.live id x hx j hj
   | some y =>
     by_cases e : id = lH base o
     ·subst e;have : x = y := by simpa [Mem.put, upd] using hx.symm
      subst this;exact hr.2 x rfl j hj
     ·have : st.m id = some x := by simpa [Mem.put, upd, e] using hx
      exact qU (id := lH base o) (ob := some y) (hw.live id x this j hj)
 | @store ty j x v b b' h =>
   have hlv : ∀ i, (st.m i).isSome = true → (upd st.m j (some b') i).isSome = true := fun i hi => by
    exact Kk
   refine ⟨fun t i hi => hlv i (hw.ids t i hi), fun id y hy i hi => hlv i ?_⟩;by_cases e : id = j
   ·subst e;have : y = b' := by simpa [upd] using hy.symm
    subst this;rcases J3 h.new i hi with hi | hi
    ·exact hw.live _ _ h.box i hi
    ·exact uq hw.ids v i hi
   ·exact hw.live id y (by simpa [upd, e] using hy) i hi
inductive Chain (P : Go.Program) (T : Tab) (kp : Nat → Prop) (base : Nat) (ops : Array Oper) : List Nat → St → St → Prop where
 | nil (st : St) : Chain P T kp base ops [] st st
 | cons {i : Nat} {o : Oper} {l : List Nat} {st st1 st2 : St} (hi : ops[i]? = some o) (h : HS P T kp base ops o st st1) (t : Chain P T kp base ops l st1 st2) : Chain P T kp base ops (i :: l) st st2
theorem Chain.front {kp : Nat → Prop} {i : Nat} {oi : Oper} (hi : ops[i]? = some oi) : ∀ {l1 l2 : List Nat} {st st' : St}, WF st → (∀ j ∈ l1, ∀ oj, ops[j]? = some oj → indep T ops oj oi = true) → Chain P T kp base ops (l1 ++ i :: l2) st st' →
 ∃ st1, HS P T kp base ops oi st st1 ∧ Chain P T kp base ops (l1 ++ l2) st1 st'
 | [], l2, st, st', _, _, h => by
   cases h with
   | cons h1 h2 h3 =>
     have : oi = _ := Option.some.inj (hi.symm.trans h1);subst this;exact ⟨_, h2, h3⟩
 | j :: l1, l2, st, st', hw, hind, h => by
   cases h with
   | @cons _ oj _ _ st1 _ h1 h2 h3 =>
     obtain ⟨st2, h4, h5⟩ := Chain.front hi (h2.wf hw) (fun k hk ok hok => hind k (by simp [hk]) ok hok) h3;obtain ⟨st3, h6, h7⟩ := HS.comm (hind j (by simp) oj h1) hw h2 h4;exact ⟨st3, h6, .cons h1 h7 h5⟩
def GN (ops : Array Oper) : Nat → Nat → Nat → Bool
 | 0, _, _ => false
 | f + 1, k, j => match ops[k]? with
   | some o => o.after.toList.any (fun e => Region.binds .any e && e.on == j) || o.after.toList.any (fun e => Region.binds .any e && GN ops f e.on j)
   | none => false
def IU (T : Tab) (ops : Array Oper) (k : Nat) : Bool :=
 match ops[k]? with
 | none => true
 | some ok => ok.after.toList.all (fun e => !Region.binds .any e || decide (e.on < k)) && (List.range k).all fun j => match ops[j]? with | none => true | some oj => indep T ops oj ok || GN ops ops.size k j
def q9 (T : Tab) (ops : Array Oper) : Bool := (List.range ops.size).all (IU T ops)
def lY (ops : Array Oper) (listed : Array Bool) : Prop := ∀ (k : Nat) o, ops[k]? = some o → listed.getD k true = true → ∀ e ∈ o.after, Region.binds .any e = true → listed.getD e.on false = true
theorem vE {listed : Array Bool} {k : Nat} (h : listed.getD k false = true) : listed.getD k true = true := by
 rw [Array.getD_eq_getD_getElem?] at h ⊢;cases hx : listed[k]? with
 | none => rfl
 | some b => rw [hx] at h; exact h
theorem mV {listed : Array Bool} (hc : lY ops listed) {j : Nat} : ∀ (f k : Nat) (o : Oper), ops[k]? = some o → (∀ e ∈ o.after, Region.binds .any e = true → listed.getD e.on false = true) → GN ops f k j = true → listed.getD j false = true
 | 0, _, _, _, _, h => by cases h
 | f + 1, k, o, ho, hr, h => by
   simp only [GN, ho, Bool.or_eq_true, List.any_eq_true, Bool.and_eq_true, beq_iff_eq] at h;rcases h with ⟨e, he, hb, rfl⟩ | ⟨e, he, hb, ha⟩
   ·exact hr e Gn hb
   ·have hle := hr e Gn hb;cases ho' : ops[e.on]? with
    | none =>
      cases f with
      | zero => cases ha
      | succ f => simp only [GN, ho'] at ha; cases ha
    | some o' => exact mV hc f e.on o' ho' (fun e' he' hb' => hc e.on o' ho' (vE hle) e' he' hb') ha
end
theorem jY {P : Go.Program} {b : Nat} {ty : TypeId} : ∀ (vs : List Value) (off i : Nat) (us : List Value) (w : World), w.heap[b]? = some (.cells us.toArray ty) → (∀ v ∈ vs, v.oneCell' = true) → off + i + vs.length ≤ us.length →
 ∃ w', (storeCells ⟨b, off, none⟩ vs i).run P w = .ok () w' ∧ w'.heap[b]? = some (.cells (us.take (off + i) ++ (vs ++ us.drop (off + i + vs.length))).toArray ty) ∧ w'.os = w.os ∧ w'.tape = w.tape ∧ w'.output = w.output ∧ w'.heap.size = w.heap.size ∧ ∀ k, k ≠ b → w'.heap[k]? = w.heap[k]? := by
 intro vs
 induction vs with
 | nil => intro off i us w h _ _; exact ⟨w, by simp [storeCells], by simpa using h, rfl, rfl, rfl, rfl, fun _ _ => rfl⟩
 | cons v vs ih =>
   intro off i us w h h1 hl;have hlt : off + i < us.length := by simp at hl; omega
   have hc : w.cell? ⟨b, off + i, none⟩ = some us[off + i] := by simp [World.cell?, h, hlt]
   have hfz : w.frozen? ⟨b, off + i, none⟩ = false := by simp [World.frozen?, h]
   have hset : (w.setCell ⟨b, off + i, none⟩ v).heap[b]? = some (.cells (us.set (off + i) v).toArray ty) := by
    show (w.heap.modify b _)[b]? = _;rw [Array.getElem?_modify, if_pos rfl, h];simp
   obtain ⟨w', r1, r2, r3, r4, r5, r6, r7⟩ := ih off (i + 1) (us.set (off + i) v) _ hset (fun u hu => h1 u (by simp [hu])) (by simp at hl ⊢; omega);have h1v := h1 v (by simp);refine ⟨w', ?_, ?_, r3, r4, r5, r6.trans (by simp), fun k hk => (r7 k hk).trans (Below.heap_setCell w ⟨b, off + i, none⟩ v k hk)⟩
   ·unfold storeCells;rw [Sem.run_bind];have : (store ((⟨b, off, none⟩ : Addr).add i) v).run P w = .ok () (w.setCell ⟨b, off + i, none⟩ v) := by
     rw [kg];unfold store;cases v <;> first | (simp [Value.oneCell'] at h1v; done) | simp [Sem.run, hc, hfz]
    rw [this];exact r1
   ·rw [r2]
    congr 2
    rw [← Nat.add_assoc, List.take_set, List.length_cons];rw [List.drop_set];rw [if_pos (by omega)];rw [show off + i + 1 + vs.length = off + i + (vs.length + 1) by omega];rw [List.take_add_one, List.getElem?_eq_getElem hlt];rw [List.set_append];rw [if_neg (by simp; omega)];simp [List.length_take, Nat.min_eq_left (Nat.le_of_lt hlt)]
theorem RVs.append {B : Nat → Value} {w : World} {I : Nat → Nat → Prop} : ∀ {al bl : List A} {vs us : List Value}, RVs B w I al vs → RVs B w I bl us → RVs B w I (al ++ bl) (vs ++ us)
 | [], _, [], _, _, h => h
 | _ :: _, _, _ :: _, _, h, k => ⟨h.1, RVs.append h.2 k⟩
theorem RVs.oneCell {B : Nat → Value} {w : World} {I : Nat → Nat → Prop} : ∀ {al : List A} {vs : List Value}, RVs B w I al vs → ∀ v ∈ vs, v.oneCell' = true
 | [], [], _, v, h => by simp at h
 | _ :: _, u :: us, h, v, hv => by
   rcases List.mem_cons.1 hv with rfl | hv
   ·exact h.1.2
   ·exact RVs.oneCell h.2 v hv
theorem MR.store {w0 w w' : World} {I0 I : Nat → Nat → Prop} {B : Nat → Value} {m : Mem} (h : MR w0 I0 B I m w) {j b ty0 off : Nat} {cells l : List A} {us vs : List Value} (hj : m j = some (.box ty0 cells)) (hB : B j = .pointer (some ⟨b, 0, none⟩)) (hus : w.heap[b]? = some (.cells us.toArray ty0)) (hv : RVs B w I l vs)
 (hl : ∀ i ∈ l.flatMap A.ids, (m i).isSome = true) (hb : w'.heap[b]? = some (.cells (us.take off ++ (vs ++ us.drop (off + vs.length))).toArray ty0)) (h1 : w'.os = w.os) (h2 : w'.tape = w.tape) (h3 : w'.output = w.output) (h4 : w'.heap.size = w.heap.size) (h5 : ∀ k, k ≠ b → w'.heap[k]? = w.heap[k]?) :
 MR w0 I0 B I (upd m j (some (.box ty0 (wm cells off l)))) w' ∧ Ext w w' I I := by
 obtain ⟨b', us', e1, e2, e3, e4⟩ := h.objs j _ hj
 rw [hB] at e1
 cases e1
 rw [hus] at e2
 have e2' : us = us' := by
  have := Option.some.inj e2
  injection this with h1
  simpa using h1
 subst e2'
 have hbl := h.low j _ hj b ⟨0, hB⟩
 have hE : Ext w w' I I := ⟨fun _ _ k => k, fun b' o ho => World.cell?_of_block (w := w) (h5 b' (fun e => by subst e; exact e4 o ho))⟩
 have liv : ∀ i, (m i).isSome = true → (upd m j (some (O.box ty0 (wm cells off l))) i).isSome = true := fun i hi => by
  exact Kk
 refine ⟨⟨h.below.trans ⟨h1, h2, h3, by omega, fun k hk => h5 k (by omega)⟩, h.glob, h.base, h.old, fun b' o ho => by rw [h4]; exact h.there b' o ho, fun id o ho => ?_, fun id o ho k hk => ?_, fun id o id' o' ho ho' hne k hk hk' => ?_, fun id o ho i hi => ?_⟩, hE⟩
 ·by_cases e : id = j
  ·subst e
   have : o = .box ty0 (wm cells off l) := by simpa [upd] using ho.symm
   subst this
   have hvl := hv.length
   have hcl := e3.length
   refine ⟨b, _, hB, hb, ?_, e4⟩
   unfold wm
   rw [← hvl]
   exact ((e3.take off).append (hv.append (e3.drop _))).mono hE (fun _ _ => rfl)
  ·have ho : m id = some o := by simpa [upd, e] using ho
   exact RO.mono hE rfl (fun _ _ => rfl) (fun k hk => h5 k (fun e' => by subst e'; exact h.apart id o j _ ho hj e k hk ⟨0, hB⟩)) (fun _ _ _ hp => hp) (h.objs id o ho)
 ·rw [h4]
  by_cases e : id = j
  ·subst e
   have : o = .box ty0 (wm cells off l) := by simpa [upd] using ho.symm
   subst this
   exact h.low id _ hj k hk
  ·exact h.low id o Po k hk
 ·have same : ∀ {i : Nat} {x : O} {q : Nat}, upd m j (some (O.box ty0 (wm cells off l))) i = some x → foot B i x q → ∃ y, m i = some y ∧ foot B i y q := fun {i x q} hx hq => by
   by_cases e : i = j
   ·subst e;have : x = .box ty0 (wm cells off l) := by simpa [upd] using hx.symm
    subst this;exact ⟨_, hj, hq⟩
   ·exact ⟨x, by simpa [upd, e] using hx, hq⟩
  obtain ⟨y, hy, hq⟩ := same ho hk
  obtain ⟨y', hy', hq'⟩ := same ho' hk'
  exact h.apart id y id' y' hy hy' hne k hq hq'
 ·refine liv i ?_
  by_cases e : id = j
  ·subst e
   have : o = .box ty0 (wm cells off l) := by simpa [upd] using ho.symm
   subst this
   simp only [O.ids, wm, List.flatMap_append, List.mem_append] at hi
   have old : ∀ z ∈ cells, ∀ q ∈ z.ids, (m q).isSome = true := fun z hz q hq => h.live _ _ hj q (List.mem_flatMap.2 ⟨z, hz, hq⟩)
   rcases hi with hi | hi | hi
   ·obtain ⟨z, hz, hq⟩ := List.mem_flatMap.1 hi
    exact old z (List.mem_of_mem_take hz) i hq
   ·exact hl i hi
   ·obtain ⟨z, hz, hq⟩ := List.mem_flatMap.1 hi
    exact old z (List.mem_of_mem_drop hz) i hq
  ·exact h.live id o Po i hi
theorem qG {P : Go.Program} (w : World) (t ty e : TypeId) (i : TypeInfo) (z : Value) (size bytes : Nat) (ht : P.underlying t = some (.slice e)) (hi : P.info? e = some i) (hz : i.zero = some z) (hsize : i.size = size) (hby : i.bytes = bytes) (hzs : z.cells.size = size) (hsz : 0 < size)
 (v : Value) (n : Nat) (xs : List Value) (hown : w.ownsRow 0 e size v n xs) (ad : Option Addr) (m c : Nat) (news : List Value) (hl : news.length = m * size) (hnews : ∀ (j : Nat) u, news[j]? = some u → ∃ a, ad = some a ∧ w.cell? (a.add j) = some u) (h1 : ∀ u ∈ news, u.oneCell' = true)
 (h63 : n + m ≤ maxLen) (hbytes : (n + m) * bytes ≤ 140737488355328) :
 ∃ v' w', (Builtin.append_ #[t, t] ty #[v, .slice ad m c]).run P w = .ok v' w' ∧ w'.ownsRow 0 e size v' (n + m) (xs ++ news) ∧ w'.os = w.os ∧ w'.tape = w.tape ∧ w'.output = w.output ∧
   ((∃ g, v.ownBlock = some g ∧ v'.ownBlock = some g ∧ w'.heap.size = w.heap.size ∧ ∀ k, k ≠ g → w'.heap[k]? = w.heap[k]?) ∨ (Below w.heap.size w w' ∧ ∀ k, v'.ownBlock = some k → w.heap.size ≤ k) ∨ (v' = v ∧ w' = w)) := by
 subst hsize
 subst hby
 have hsmall : n + m ≤ 9223372036854775807 := by simp only [maxLen] at h63; omega
 have hlen : (xs ++ news).length = (n + m) * i.size := by rw [List.length_append, hown.1, hl, Nat.add_mul]
 by_cases hm : m = 0
 ·subst hm
  have hn : news = [] := List.eq_nil_of_length_eq_zero yF
  subst hn
  refine ⟨v, w, ?_, by simpa using hown, rfl, rfl, rfl, .inr (.inr ⟨rfl, rfl⟩)⟩
  rcases hown.2 with ⟨rfl, rfl⟩ | ⟨g, cap, cur, rfl, hbg, hg, hnc, hcm, hcs, htake⟩
  ·cases ad <;> simp [Builtin.append_, run_underlying ht, sizeOf, typeInfo, hi, Builtin.lenOf, Builtin.firstCells, loadCells, loadCellsFrom]
  ·cases ad <;> simp [Builtin.append_, run_underlying ht, sizeOf, typeInfo, hi, Builtin.lenOf, Builtin.firstCells, loadCells, loadCellsFrom, hnc, storeCells]
 ·have hpos : 0 < news.length := by rw [hl]; exact Nat.mul_pos (by omega) hsz
  obtain ⟨a, rfl, -⟩ := hnews 0 _ (List.getElem?_eq_getElem hpos)
  have hnews' : ∀ (j : Nat) u, news[j]? = some u → w.cell? (a.add j) = some u := fun j u hj => by
   exact VK
  have grown : ∀ (old : Nat), old < n + m →
   (w.drew.alloc (.cells (xs.toArray ++ news.toArray ++ Builtin.zeroCells z.cells (grownCap w (n + m) old e - (n + m))) e)).ownsRow 0 e i.size
     (.slice (some ⟨w.heap.size, 0, none⟩) (n + m) (grownCap w (n + m) old e)) (n + m) (xs ++ news) ∧
   Below w.heap.size w (w.drew.alloc (.cells (xs.toArray ++ news.toArray ++ Builtin.zeroCells z.cells (grownCap w (n + m) old e - (n + m))) e)) := by
   intro old ho
   have hge := grownCap_ge w (n + m) old e
   have hcm : grownCap w (n + m) old e ≤ maxLen := grownCap_le_maxLen w (n + m) old e h63
   refine ⟨⟨hlen, .inr ⟨w.heap.size, _, _, rfl, Nat.zero_le _, heap_alloc_new w.drew _, hge, hcm, ?_, ?_⟩⟩, (Below.refl w.heap.size w).drew.alloc (Nat.le_refl _) _⟩
   ·simp only [Array.size_append, List.size_toArray, size_zeroCells, hzs, hown.1, hl, ← Nat.add_mul]
    congr 1
    omega
   ·simp only [Array.toList_append, List.append_assoc]
    rw [← List.append_assoc, ← hlen]
    exact List.take_left
  rcases hown.2 with ⟨rfl, rfl⟩ | ⟨g, cap, cur, rfl, hbg, hg, hnc, hcm, hcs, htake⟩
  ·have hx : xs = [] := List.eq_nil_of_length_eq_zero (by simpa using hown.1)
   subst hx
   have hr := run_append_nil (P := P) w t ty e i z ht hi hz a m c news hl hnews' (by omega) (by omega) Vx
   have hgr := grown 0 (by omega)
   simp only [Nat.zero_add, List.nil_append, Array.empty_append] at hgr ⊢
   exact ⟨_, _, hr, hgr.1, rfl, rfl, rfl, .inr (.inl ⟨hgr.2, fun k hk => by simp [Value.ownBlock] at hk; omega⟩)⟩
  ·by_cases hroom : n + m ≤ cap
   ·have hfit : n * i.size + news.length ≤ cur.size := by rw [hl, hcs, ← Nat.add_mul]; exact Nat.mul_le_mul_right _ hroom
    have hr := run_append_room (P := P) w t ty e i ht hi g n cap cur hg a m c news hl hnews' h1 hroom hfit
    refine ⟨_, _, hr, ⟨hlen, .inr ⟨g, cap, _, rfl, hbg, setRow_heap w g cur _ e _ hg, hroom, hcm, ?_, ?_⟩⟩, rfl, rfl, rfl, .inl ⟨g, rfl, rfl, by simp, fun k hk => setRow_other w g k _ hk⟩⟩
    ·simp only [List.size_toArray, List.length_append, List.length_take, List.length_drop, Array.length_toList]
     omega
    ·rw [htake, ← hlen]
     exact List.take_left
   ·have holds : ∀ (j : Nat) u, xs[j]? = some u → w.cell? ((⟨g, 0, none⟩ : Addr).add j) = some u := hown.cells (g := g) rfl
    have hr := run_append_grow (P := P) w t ty e i z ht hi hz ⟨g, 0, none⟩ n cap xs hown.1 holds a m c news hl hnews' (by omega) (by omega) (growslice_fits (by omega) hbytes)
    have hgr := grown cap (by omega)
    exact ⟨_, _, hr, hgr.1, rfl, rfl, rfl, .inr (.inl ⟨hgr.2, fun k hk => by simp [Value.ownBlock] at hk; omega⟩)⟩
theorem MR.append {w0 w w' : World} {I0 I : Nat → Nat → Prop} {B : Nat → Value} {m : Mem} (h : MR w0 I0 B I m w) {id e n : Nat} {xs ys : List (List C)} {vs news : List Value} {v' : Value} (hid : m id = some (.arr e n xs)) (hv : w.ownsRow 0 e n (B id) xs.length vs) (hvs : RCs w I vs (flat xs)) (hlx : ∀ x ∈ xs, x.length = n)
 (hiff : ∀ b, (B id).ownBlock = some b → ∀ o, (I b o ↔ o < xs.length * n)) (hown : w'.ownsRow 0 e n v' (xs.length + ys.length) (vs ++ news)) (hnews : RCs w I news (flat ys)) (hly : ∀ y ∈ ys, y.length = n) (h1 : w'.os = w.os) (h2 : w'.tape = w.tape) (h3 : w'.output = w.output)
 (h4 : (∃ g, (B id).ownBlock = some g ∧ v'.ownBlock = some g ∧ w'.heap.size = w.heap.size ∧ ∀ k, k ≠ g → w'.heap[k]? = w.heap[k]?) ∨ (Below w.heap.size w w' ∧ ∀ k, v'.ownBlock = some k → w.heap.size ≤ k) ∨ (v' = B id ∧ w' = w)) :
 ∃ I', MR w0 I0 (upd B id v') I' (upd (fq id m) id (some (.arr e n (xs ++ ys)))) w' ∧ Ext w w' I I' := by
 have hlow := h.low id _ hid
 -- of which block v' is
 have hblk : ∀ b, v'.ownBlock = some b → b < w'.heap.size ∧ ((B id).ownBlock = some b ∨ w.heap.size ≤ b) := fun b hb => by
  refine ⟨(hown.lt b hb).2, ?_⟩;rcases h4 with ⟨g, k1, k2, -⟩ | ⟨-, k⟩ | ⟨k, -⟩
  ·rw [k2] at hb; rw [← hb]; exact .inl k1
  ·exact .inr (k b hb)
  ·rw [k] at hb; exact .inl hb
 have hsize : w.heap.size ≤ w'.heap.size := by
  exact Oj
 have hkeep : ∀ b, b < w.heap.size → (B id).ownBlock ≠ some b → w'.heap[b]? = w.heap[b]? := fun b hb hne => by
  exact V6
 have hbel : Below w0.heap.size w0 w' := h.below.trans ⟨h1, h2, h3, hsize, fun b hb => hkeep b (Nat.lt_of_lt_of_le hb h.below.size) (fun e => by have := (hlow b e).1; omega)⟩
 let I' : Nat → Nat → Prop := fun b o => I b o ∨ (v'.ownBlock = some b ∧ o < (xs.length + ys.length) * n)
 have cellOf : ∀ {W : World} {v : Value} {k : Nat} {us : List Value} {b o : Nat}, W.ownsRow 0 e n v k us → v.ownBlock = some b → o < us.length → W.cell? ⟨b, o, none⟩ = us[o]? := fun {W v k us b o} hr hb ho => by
  have := hr.cells hb o _ (List.getElem?_eq_getElem ho);rw [kg, Nat.zero_add] at this;rw [this, List.getElem?_eq_getElem ho]
 have hE : Ext w w' I I' := by
  refine ⟨fun _ _ k => .inl k, fun b o ho => ?_⟩;by_cases e1 : (B id).ownBlock = some b
  ·have hlt := (hiff b e1 o).1 ho;have hlv : vs.length = xs.length * n := hv.1;rcases h4 with ⟨g, k1, k2, -⟩ | ⟨k, -⟩ | ⟨-, k⟩
   ·have : g = b := by rw [k1] at e1; exact Option.some.inj e1
    subst this;rw [cellOf hown k2 (by rw [List.length_append]; omega), cellOf hv k1 (by omega), List.getElem?_append_left (by omega)]
   ·exact k.cell (p := ⟨b, o, none⟩) (h.there b o ho)
   ·rw [k]
  ·exact World.cell?_of_block (w := w) (hkeep b (h.there b o ho) e1)
 refine ⟨I', h.EZ hid h1 h2 h3 hsize (fun b hb hn => hkeep b hb (fun e => hn e)) (fun k hk => hblk k (by simpa [foot, upd_same] using hk)) hE (fun b p hp => hp.imp (fun z => z) fun q => by simpa [foot, upd_same] using q.1) ?_ (fun i hi => by simp [O.ids] at hi), hE⟩
 refine ⟨vs ++ news, ?_, ?_, fun x hx => ?_, fun b hb o => ?_⟩
 ·rw [upd_same, List.length_append]; exact hown
 ·rw [flat, List.flatten_append]
  exact (hvs.mono hE).append (hnews.mono hE)
 ·rcases List.mem_append.1 hx with q | q
  ·exact hlx x q
  ·exact hly x q
 ·rw [upd_same] at hb
  rw [List.length_append]
  refine ⟨fun ho => ?_, fun ho => .inr ⟨hb, ho⟩⟩
  rcases ho with ho | ⟨-, ho⟩
  ·rcases (hblk b hb).2 with q | q
   ·have := (hiff b q o).1 ho
    rw [Nat.add_mul]; omega
   ·have := h.there b o ho; omega
  ·exact ho
theorem nD {α : Type} (l ins : List α) (k q : Nat) (h : k + ins.length ≤ l.length) : (l.take k ++ (ins ++ l.drop (k + ins.length)))[q]? = if k ≤ q ∧ q < k + ins.length then ins[q - k]? else l[q]? := by
 have hk : min k l.length = k := by omega
 by_cases h1 : q < k
 ·rw [if_neg (by omega), List.getElem?_append_left Ah, List.getElem?_take, if_pos h1]
 ·rw [List.getElem?_append_right Ah, List.length_take, hk];by_cases h2 : q < k + ins.length
  ·rw [if_pos ⟨by omega, h2⟩, List.getElem?_append_left (by omega)]
  ·rw [if_neg (by omega), List.getElem?_append_right (by omega), List.getElem?_drop]
   congr 1; omega
theorem kL {α : Type} (l ins : List α) (k : Nat) (h : k + ins.length ≤ l.length) : (l.take k ++ (ins ++ l.drop (k + ins.length))).length = l.length := by
 simp only [List.length_append, List.length_take, List.length_drop]; omega
theorem uw {α : Type} (cur ins vs : List α) (off k N : Nat) (hv : (cur.drop off).take N = vs) (hN : off + N ≤ cur.length) (hk : k + ins.length ≤ N) :
 ((cur.take (off + k) ++ (ins ++ cur.drop (off + k + ins.length))).drop off).take N = vs.take k ++ (ins ++ vs.drop (k + ins.length)) := by
 have hvl : vs.length = N := by rw [← hv]; simp only [List.length_take, List.length_drop]; omega
 refine List.ext_getElem? fun q => ?_
 rw [nD vs ins k q (by omega), List.getElem?_take]
 by_cases hq : q < N
 ·rw [if_pos hq, List.getElem?_drop, nD cur ins (off + k) (off + q) (by omega)]
  have hvq : vs[q]? = cur[off + q]? := by rw [← hv, List.getElem?_take, if_pos hq, List.getElem?_drop]
  by_cases h1 : k ≤ q ∧ q < k + ins.length
  ·rw [if_pos (by omega), if_pos h1]; congr 1; omega
  ·rw [if_neg (by omega), if_neg h1, hvq]
 ·rw [if_neg hq, if_neg (by omega), List.getElem?_eq_none (by omega)]
theorem Gv {xs : List (List C)} {e i f : Nat} {cs l : List C} (hlx : ∀ x ∈ xs, x.length = e) (hcs : xs[i]? = some cs) (hfl : f + l.length ≤ e) :
 flat (xs.set i (rG cs f l)) = (flat xs).take (i * e + f) ++ (l ++ (flat xs).drop (i * e + f + l.length)) := by
 have hlt := (List.getElem?_eq_some_iff.1 hcs).1
 have hcl := hlx cs (List.mem_of_getElem? hcs)
 have hrl : (rG cs f l).length = e := by rw [rG, kL _ _ _ (by omega), hcl]
 have hlx' : ∀ x ∈ xs.set i (rG cs f l), x.length = e := fun x hx => by
  rcases List.mem_or_eq_of_mem_set hx with hx | rfl
  ·exact hlx x hx
  ·exact hrl
 have hF := kW hlx
 have hF' := kW hlx'
 rw [List.length_set] at hF'
 have hbnd : i * e + e ≤ xs.length * e := by
  have := Nat.mul_le_mul_right e (show i + 1 ≤ xs.length from hlt);exact Ot
 by_cases he : e = 0
 ·subst he
  have h1 : flat (xs.set i (rG cs f l)) = [] := List.eq_nil_of_length_eq_zero (by omega)
  have h2 : flat xs = [] := List.eq_nil_of_length_eq_zero (by omega)
  have h3 : l = [] := List.eq_nil_of_length_eq_zero (by omega)
  rw [h1, h2, h3]; simp
 ·refine List.ext_getElem? fun q => ?_
  rw [nD _ _ _ _ (by omega)]
  by_cases hq : q < xs.length * e
  ·have hml := Nat.mod_lt q (Nat.pos_of_ne_zero he)
   have hqd : q / e < xs.length := (Nat.div_lt_iff_lt_mul (Nat.pos_of_ne_zero he)).2 hq
   have eq : q / e * e + q % e = q := by rw [Nat.mul_comm]; exact Nat.div_add_mod q e
   have old := kT hlx (q / e) (q % e) _ (List.getElem?_eq_getElem hqd) hml
   rw [eq] at old
   by_cases h6 : i = q / e
   ·have nw := kT hlx' (q / e) (q % e) (rG cs f l) (by rw [List.getElem?_set, if_pos h6, if_pos hlt]) hml
    rw [eq] at nw
    have hcs' : xs[q / e] = cs := by
     have := List.getElem?_eq_getElem hqd;have h7 : xs[q / e]? = some cs := by rw [← h6]; exact hcs
     exact Option.some.inj (this.symm.trans h7)
    rw [hcs'] at old
    have eq2 : i * e + q % e = q := by rw [h6]; exact eq
    rw [nw, rG, nD cs l f (q % e) (by omega)]
    by_cases h1 : f ≤ q % e ∧ q % e < f + l.length
    ·rw [if_pos h1, if_pos (by omega)]; congr 1; omega
    ·rw [if_neg h1, if_neg (by omega), old]
   ·have nw := kT hlx' (q / e) (q % e) xs[q / e] (by rw [List.getElem?_set, if_neg h6]; exact List.getElem?_eq_getElem hqd) hml
    rw [eq] at nw
    have hout : q < i * e ∨ i * e + e ≤ q := by
     rcases Nat.lt_or_gt_of_ne h6 with h7 | h7
     ·right;have := Nat.mul_le_mul_right e (show i + 1 ≤ q / e from h7);exact Ot
     ·left;have := Nat.mul_le_mul_right e (show q / e + 1 ≤ i from h7);exact Ot
    rw [nw, if_neg (by omega), old]
  ·rw [if_neg (by omega), List.getElem?_eq_none (by omega), List.getElem?_eq_none (by omega)]
section
variable {P : Go.Program} {T : Tab} {w0 w : World} {I0 I : Nat → Nat → Prop} {B : Nat → Value} {m : Mem}
theorem Kz (hT : T.Ok P) (hm : MR w0 I0 B I m w) {ty j : Nat} {a v : A} {b b' : O} {u y : Value} (ha : qM a = some j) (hj : m j = some b) (hn : stO T ty a v b = some b') (hu : RV B w I a u) (hy : RV B w I v y) (hl : ∀ i ∈ v.ids, (m i).isSome = true) :
 ∃ w', (Instr.storeAt ty u y).run P w = .ok () w' ∧ MR w0 I0 B I (upd m j (some b')) w' ∧ Ext w w' I I := by
 have hids : ∀ i ∈ b'.ids, (m i).isSome = true := fun i hi => (J3 hn i hi).elim (hm.live j b hj i) (hl i)
 cases b with
 | box ty0 cells =>
   simp only [stO] at hn;split at hn
   ·rename_i id off n g l hty hc;simp [qM] at ha; subst ha;split at hn
    ·rename_i hh;cases hn
     obtain ⟨b, us, hB, hus, hcs, hI⟩ := hm.objs _ _ hj;obtain ⟨b', hB', e2⟩ := hu;rw [hB] at hB';cases hB'
     have hvs := qd hc hy;have hlen := hvs.length;have hcl := hcs.length;obtain ⟨w', r1, r2, r3, r4, r5, r6, r7⟩ := jY (P := P) y.cells.toList off 0 us w hus hvs.oneCell (by omega);refine ⟨w', ?_, ?_⟩
     ·simp only [e2, Instr.storeAt, Instr.sureAddr, Sem.run_bind, Sem.run_pure, Result.andThen_ok, storeVar, run_sizeOf hT hty];rw [if_neg (by rw [← hh.1, hlen]; simp), r1]
     ·refine hm.turn hj ⟨0, hB⟩ (fun k hk => ?_) hI r3 r4 r5 r6 r7 hids (fun hE => ⟨b, _, hB, r2, ?_, hI⟩)
      ·obtain ⟨o', hk⟩ := hk;rw [hB] at hk; cases hk; rfl
      ·unfold wm;rw [hlen];exact ((hcs.take off).append (hvs.append (hcs.drop _))).mono hE (fun _ _ => rfl)
    ·cases hn
   ·cases hn
 | mrow ty0 e xs =>
   simp only [stO] at hn;split at hn
   ·rename_i id e' i f n g l hty hc;simp [qM] at ha; subst ha;split at hn
    ·rename_i hh;obtain ⟨rfl, hln, hfl⟩ := hh;split at hn
     ·rename_i cs hcs;cases hn
      obtain ⟨vs, hrow, hvs, hlx, hI⟩ := hm.objs _ _ hj;obtain ⟨bl, off, nn, cap, hB, e2⟩ := hu;have hcl := hlx cs (List.mem_of_getElem? hcs);have hlt := (List.getElem?_eq_some_iff.1 hcs).1;have hdat : RCs w I y.cells.toList l := by
       cases v <;> simp [yx] at hc <;> subst hc
       ·rw [(RC.one hy).2]; exact ⟨hy, trivial⟩
       ·obtain ⟨us, rfl, h⟩ := hy; exact h
       ·have hy' : y = _ := hy;rw [hy'];exact ⟨.sl (e := 0) (fun _ _ => undef) rfl (Nat.le_refl _) (Nat.zero_le _) (fun _ h => by simp at h) (fun i x hx => by simp at hx) (fun i j x c hx => by simp at hx), trivial⟩
       ·rw [(RC.one hy.1).2]; exact ⟨hy.1, trivial⟩
      have hlen := hdat.length;have hlen2 : y.cells.size = l.length := by rw [← Array.length_toList]; exact hlen
      rcases hrow.2 with ⟨e3, -⟩ | ⟨gb, o3, c3, cur, e3, hg, hnc, hcm, hsz, htk⟩
      ·rw [hB] at e3; cases e3
      ·rw [hB] at e3; cases e3;have hbnd : i * e' + e' ≤ xs.length * e' := by
        have := Nat.mul_le_mul_right e' (show i + 1 ≤ xs.length from hlt);exact Ot
       have hcap : xs.length * e' ≤ cap * e' := Nat.mul_le_mul_right _ hnc;have one : ∀ u ∈ y.cells.toList, u.oneCell' = true := fun u hu => by
        obtain ⟨q, hq⟩ := List.getElem?_of_mem hu;obtain ⟨x, hx⟩ : ∃ x, l[q]? = some x := ⟨_, List.getElem?_eq_getElem (by rw [← hlen]; exact (List.getElem?_eq_some_iff.1 hq).1)⟩;obtain ⟨u', h5, h6⟩ := hdat.at q x hx;rw [hq] at h5; cases h5; exact h6.one.1
       obtain ⟨w', r1, r2, r3, r4, r5, r6, r7⟩ := jY (P := P) y.cells.toList (off + i * e' + f) 0 cur.toList w hg one (by rw [show cur.toList.length = cur.size from Array.length_toList]; omega);refine ⟨w', ?_, ?_⟩
       ·simp only [e2, Instr.storeAt, Instr.sureAddr, Sem.run_bind, Sem.run_pure, Result.andThen_ok, storeVar, run_sizeOf hT hty];rw [if_neg (by rw [← hln, ← hlen]; simp), r1]
       ·have hf : foot B id (.mrow ty0 e' xs) bl := by show Value.ownBlock _ = _; rw [hB]; rfl
        refine hm.turn hj hf (fun k hk => ?_) (hI bl hf) r3 r4 r5 r6 r7 hids (fun hE => ⟨vs.take (i * e' + f) ++ (y.cells.toList ++ vs.drop (i * e' + f + y.cells.toList.length)), ?_, ?_, fun x hx => ?_, fun b hb => hI b hb⟩)
        ·exact WC
        ·have hvl : vs.length = xs.length * e' := hrow.1;refine ⟨by rw [kL _ _ _ (by omega), List.length_set]; exact hvl, .inr ⟨bl, off, cap, _, by rw [List.length_set]; exact hB, r2, by rw [List.length_set]; exact hnc, hcm, ?_, ?_⟩⟩
         ·rw [List.size_toArray, kL _ _ _ CP, Array.length_toList];exact hsz
         ·rw [List.length_set];have := uw cur.toList y.cells.toList vs off (i * e' + f) (xs.length * e') htk CP (by omega);simp only [Nat.add_zero, ← Nat.add_assoc] at this ⊢;exact this
        ·refine RCs.mono hE ?_;rw [Gv hlx hcs hfl];rw [show i * e' + f + y.cells.toList.length = i * e' + f + l.length by omega];exact (hvs.take _).append (hdat.append (hvs.drop _))
        ·rcases List.mem_or_eq_of_mem_set hx with hx | rfl
         ·exact hlx x hx
         ·rw [rG, kL _ _ _ (by omega), hcl]
     ·cases hn
    ·cases hn
   ·cases hn
 | rows ty0 xs =>
   simp only [stO] at hn;split at hn
   ·rename_i id e i f n g b1 hty hc;simp [qM] at ha; subst ha;split at hn
    ·rename_i hh;obtain ⟨rfl, rfl, rfl, hlt⟩ := hh;split at hn
     ·rename_i q hq;cases hn
      obtain ⟨vs, hrow, hvs, h1, hI⟩ := hm.objs _ _ hj;obtain ⟨bl, off, nn, cap, hB, e2⟩ := hu;have hvc := qd hc hy;have hyc : ∃ u, y.cells.toList = [u] := by
       have := hvc.length;cases hyl : y.cells.toList with
       | nil => rw [hyl] at this; cases this
       | cons u us => cases us with | nil => exact ⟨u, rfl⟩ | cons _ _ => rw [hyl] at this; simp at this
      obtain ⟨u, hyu⟩ := hyc;rw [hyu] at hvc;have hru := kU hq hvc.1.1;rcases hrow.2 with ⟨e3, -⟩ | ⟨gb, o3, c3, cur, e3, hg, hnc, hcm, hsz, htk⟩
      ·rw [hB] at e3; cases e3
      ·rw [hB] at e3; cases e3;have hvl : vs.length = xs.length * 1 := hrow.1;obtain ⟨w', r1, r2, r3, r4, r5, r6, r7⟩ := jY (P := P) [u] (off + i * 1 + 0) 0 cur.toList w hg (fun z hz => by simp at hz; subst hz; exact hvc.1.2) aaA;refine ⟨w', ?_, ?_⟩
       ·simp only [e2, Instr.storeAt, Instr.sureAddr, Sem.run_bind, Sem.run_pure, Result.andThen_ok, storeVar, run_sizeOf hT hty];rw [if_neg (by rw [← Array.length_toList, hyu]; simp), hyu, r1]
       ·have hf : foot B id (.rows ty0 xs) bl := by show Value.ownBlock _ = _; rw [hB]; rfl
        refine hm.turn hj hf (fun k hk => ?_) (hI bl hf) r3 r4 r5 r6 r7 hids (fun hE => ⟨vs.set i u, ?_, ?_, fun x hx => ?_, fun b hb => hI b hb⟩)
        ·exact WC
        ·refine ⟨by rw [List.length_set, List.length_set]; exact hvl, .inr ⟨bl, off, cap, _, by rw [List.length_set]; exact hB, r2, by rw [List.length_set]; exact hnc, hcm, ?_, ?_⟩⟩
         ·rw [List.size_toArray, kL _ _ _ aaA, Array.length_toList];exact hsz
         ·rw [List.length_set];have := uw cur.toList [u] vs off i (xs.length * 1) htk CP (by simp only [List.length_cons, List.length_nil]; omega);simp only [Nat.add_zero, Nat.mul_one] at this ⊢;rw [this];refine List.ext_getElem? fun q => ?_;rw [nD _ _ _ _ (by rw [List.length_cons, List.length_nil]; omega), List.getElem?_set];by_cases h1 : i = q
          ·subst h1;rw [if_pos (by simp), if_pos rfl, if_pos (by omega)]; simp
          ·rw [if_neg (by simp; omega), if_neg h1]
        ·refine R1s.of (by rw [List.length_set, List.length_set]; exact hvs.length) fun q a' v' ha' hv' => ?_;rw [List.getElem?_set] at ha' hv';by_cases h1 : i = q
         ·subst h1;rw [if_pos rfl, if_pos (by omega)] at ha' hv';cases ha'; cases hv'
          exact hru.mono hE fun _ _ => rfl
         ·rw [if_neg h1] at ha' hv';obtain ⟨v2, h2, h3⟩ := hvs.at q a' ha';rw [hv'] at h2; cases h2;exact h3.mono hE fun _ _ => rfl
        ·rcases List.mem_or_eq_of_mem_set hx with hx | rfl
         ·exact h1 x hx
         ·exact hvc.1.2
     ·cases hn
    ·cases hn
   ·cases hn
 | _ => simp [stO] at hn
end
section
variable {P : Go.Program} {T : Tab} (hT : T.Ok P) {R : Ref} {w : World} {n base : Nat} {ds : List Deferred} {ops : Array Oper}
include hT
theorem HS.snd {o : Oper} {st st' : St} {a : Act} (h : HS P T R.keep base ops o st st') (hr : SR R n ds st a w) (hd : ∀ d, o.dst = some d → d < n) {K : Act → World → Prop} {Q : Exit → Act → World → Prop} (hK : ∀ a' w', SR R n ds st' a' w' → K a' w') :
 if Region.wanted o (yielded ops a.tmps) = true then o.wp P a w K Q else K (a.put o.dst undef) w := by
 cases h with
 | eff h => exact h.run R n ds a w K Q rfl hr hd hK
 | val h => exact h.snd hT hr hd hK
 | @store ty j x v b b' h =>
   obtain ⟨B, I, hm, hx0, hkp, hs⟩ := hr.ex;rw [fC hs h.want, if_pos rfl];obtain ⟨w', r1, r2, r3⟩ := Kz hT hm h.at_ h.box h.new (gM hs x) (gM hs v) (uq hr.ids v);have hrun : (execOp a.eval o).run P w = .ok .skip w' := by
    simp only [execOp, h.op, Sem.run_bind, r1, Result.andThen_ok];rfl
   unfold Oper.wp Oper.upon;rw [hrun, h.dst];have liv : ∀ i, (st.m i).isSome = true → (upd st.m j (some b') i).isSome = true := fun i hi => by
    exact Kk
   exact hK _ _ ⟨⟨B, I, r2, hx0.trans r3, hkp, fun t => (hs t).mono r3 fun _ _ => rfl⟩, fun t i hi => liv i (hr.ids t i hi), hr.size, hr.nn, hr.defs, fun i hi => liv i (hr.kept i hi)⟩
theorem Jq (hok : q9 T ops = true) (hd : ∀ o ∈ ops, ∀ d, o.dst = some d → d < n) {Q : Exit → Act → World → Prop} {st' : St} (hQ : ∀ a w, SR R n ds st' a w → Q .normal a w) :
 ∀ (fuel : Nat) (listed : Array Bool) (l : List Nat) (st : St) (a : Act) (w : World), l.length ≤ fuel → listed.size = ops.size → l.Pairwise (· < ·) → (∀ i, i ∈ l ↔ i < ops.size ∧ listed.getD i true = false) → lY ops listed → SR R n ds st a w → Chain P T R.keep base ops l st st' →
   wpAny P .any ops Q fuel listed a w := by
 have hokAt : ∀ k, k < ops.size → IU T ops k = true := fun k hk => List.all_eq_true.1 hok k (List.mem_range.2 hk)
 -- the least that has not come up may come up
 have least : ∀ {listed : Array Bool} {i : Nat} {l : List Nat}, listed.size = ops.size → (i :: l).Pairwise (· < ·) → (∀ j, j ∈ i :: l ↔ j < ops.size ∧ listed.getD j true = false) → i ∈ Region.ready .any ops listed := by
  intro listed i l hsz hp hmem;have hi := (hmem i).1 (by simp);rw [mem_ready];refine ⟨hi.2, ops[i], by simp [hi.1], fun e he hb => ?_⟩;have hk := hokAt i hi.1;simp only [IU, Array.getElem?_eq_getElem hi.1, Bool.and_eq_true, List.all_eq_true] at hk;have hlt := hk.1 e Gn;rw [hb] at hlt;simp at hlt;have : ¬ (e.on ∈ i :: l) := fun hmm => by
   rcases List.mem_cons.1 hmm with rfl | hmm
   ·omega
   ·have := (List.pairwise_cons.1 hp).1 e.on hmm; omega
  have hnot := mt (hmem e.on).2 this;have hlt2 : e.on < ops.size := by omega
  rw [Array.getD_eq_getD_getElem?] at hnot ⊢;cases hx : listed[e.on]? with
  | none => have := (Array.getElem?_eq_none_iff.1 hx); omega
  | some c => cases c with
    | true => rfl
    | false => rw [hx] at hnot; exact absurd ⟨hlt2, rfl⟩ hnot
 intro fuel
 induction fuel with
 | zero =>
   intro listed l st a w hl hsz hp hmem hc hr hch;have : l = [] := List.length_eq_zero_iff.1 (by omega);subst this;cases hch
   refine ⟨?_, hQ a w hr⟩;refine List.eq_nil_iff_forall_not_mem.2 fun i hi => ?_;obtain ⟨h1, o, h2, -⟩ := mem_ready.1 hi;have := (hmem i).2 ⟨(Array.getElem?_eq_some_iff.1 h2).1, h1⟩;simp at this
 | succ fuel ih =>
   intro listed l st a w hl hsz hp hmem hc hr hch;constructor
   ·intro hnil;cases l with
    | nil => cases hch; exact hQ a w hr
    | cons i l => have := least hsz hp hmem; rw [hnil] at this; cases this
   ·intro i hi;obtain ⟨h1, oi, h2, h3⟩ := mem_ready.1 hi;have hil := (hmem i).2 ⟨(Array.getElem?_eq_some_iff.1 h2).1, h1⟩;obtain ⟨l1, l2, rfl⟩ := List.append_of_mem hil;have hpp := List.pairwise_append.1 hp;have hind : ∀ j ∈ l1, ∀ oj, ops[j]? = some oj → indep T ops oj oi = true := fun j hj oj hoj => by
     have hji : j < i := hpp.2.2 j hj i (by simp);have hk := hokAt i (Array.getElem?_eq_some_iff.1 h2).1;exact Yf
    obtain ⟨st1, h4, h5⟩ := Chain.front h2 hr.wf hind hch;have hoi : oi ∈ ops := Array.mem_of_getElem? h2;have hlt := (Array.getElem?_eq_some_iff.1 h2).1;have hset : ∀ k, (listed.setIfInBounds i true).getD k true = if k = i then true else listed.getD k true := fun k => by
     exact aaU
    have hsetf : ∀ k, listed.getD k false = true → (listed.setIfInBounds i true).getD k false = true := fun k hk => by
     exact acz
    unfold wpOp;rw [h2];have hgo := h4.snd hT hr (hd oi hoi) (K := wpAny P .any ops Q fuel (listed.setIfInBounds i true)) (Q := Q) (fun a' w' hr' => by
     refine ih _ (l1 ++ l2) st1 a' w' ?_ Dw (hp.sublist (by simp)) (fun k => ?_) (fun k o ho hkl e he hb => ?_) hr' h5
     ·simp at hl ⊢; omega
     ·exact YC
     ·rw [hset] at hkl;split at hkl
      ·exact FZ
      ·exact hsetf _ (hc k o ho hkl e he hb))
    exact Tf
end
section
variable {P : Go.Program} {T : Tab} {w0 w : World} {I0 I : Nat → Nat → Prop} {B : Nat → Value} {m : Mem}
theorem DZ {yv : Value} {ys : List (List C)} {n' : Nat} (hn0 : 0 < n') (h : RC w I yv (.sl ys)) (hl : ∀ z ∈ ys, z.length = n') :
 ∃ ad my cap news, yv = .slice ad my cap ∧ ys.length = my ∧ news.length = my * n' ∧ (∀ (j : Nat) u, news[j]? = some u → ∃ a, ad = some a ∧ w.cell? (a.add j) = some u) ∧ RCs w I news (flat ys) ∧ ∀ u ∈ news, u.oneCell' = true := by
 cases h with
 | @sl ad my cap e' _ f hn hc hmx hln ha hrr =>
   let news : List Value := ((List.range ys.length).map fun i => (List.range n').map (f i)).flatten
   have hin : ∀ x ∈ (List.range ys.length).map (fun i => (List.range n').map (f i)), x.length = n' := fun x hx => by
    obtain ⟨i, -, rfl⟩ := List.mem_map.1 hx;simp
   have hnl : news.length = ys.length * n' := by
    have : ∀ {l : List (List Value)}, (∀ x ∈ l, x.length = n') → l.flatten.length = l.length * n' := by
     intro l;induction l with
     | nil => intro _; simp
     | cons x l ih => intro h; rw [List.flatten_cons, List.length_append, ih fun y hy => h y (List.mem_cons_of_mem _ hy), h x (by simp), List.length_cons, Nat.add_mul]; omega
    have := this hin;rw [List.length_map, List.length_range] at this;exact this
   have hns : ∀ (i j : Nat), i < ys.length → j < n' → news[i * n' + j]? = some (f i j) := fun i j hi hj => by
    have key : ∀ {l : List (List Value)} (i : Nat) (x : List Value), (∀ x ∈ l, x.length = n') → l[i]? = some x → l.flatten[i * n' + j]? = x[j]? := by
     intro l;induction l with
     | nil => intro i x _ h; simp at h
     | cons y l ih =>
       intro i x hl hx;have hy := hl y (by simp);cases i with
       | zero =>
         simp at hx; subst hx;rw [List.flatten_cons, Nat.zero_mul, Nat.zero_add, List.getElem?_append_left (by omega)]
       | succ i =>
         have := ih i x (fun z hz => hl z (List.mem_cons_of_mem _ hz)) oD;rw [List.flatten_cons, List.getElem?_append_right Vq, hy, show (i + 1) * n' + j - n' = i * n' + j by rw [Nat.add_mul]; omega];exact this
    have := key i ((List.range n').map (f i)) hin (by simp [hi]);rw [this];simp [hj]
   have hdiv : ∀ (j : Nat), j < ys.length * n' → j / n' < ys.length ∧ j % n' < n' ∧ j / n' * n' + j % n' = j := fun j hj => ⟨(Nat.div_lt_iff_lt_mul hn0).2 hj, Nat.mod_lt _ hn0, by rw [Nat.mul_comm]; exact Nat.div_add_mod j n'⟩
   have hye : ∀ z ∈ ys, e' = n' := fun z hz => by rw [← hln z hz, hl z hz]
   have hrcs : RCs w I news (flat ys) := RCs.of (by rw [hnl, kW hl]) fun j u q hj hq => by
    have hjl := (List.getElem?_eq_some_iff.1 hj).1;rw [hnl] at hjl;obtain ⟨d1, d2, d3⟩ := hdiv j hjl;have hget := List.getElem?_eq_getElem d1;have h5 := hns _ _ d1 d2;rw [d3, hj] at h5;rw [Option.some.inj h5];have h6 := kT hl _ _ _ hget d2;rw [d3, hq] at h6;exact hrr _ _ _ _ hget h6.symm
   refine ⟨ad, my, cap, news, rfl, hn, by rw [hnl, hn], fun j u hj => ?_, hrcs, fun u hu => ?_⟩
   ·have hjl := (List.getElem?_eq_some_iff.1 hj).1;rw [hnl] at hjl;obtain ⟨d1, d2, d3⟩ := hdiv j hjl;have hget := List.getElem?_eq_getElem d1;have hee := hye _ (List.getElem_mem d1);subst hee;obtain ⟨bb, off, rfl, hcs⟩ := ha _ _ hget;refine ⟨_, rfl, ?_⟩;rw [kg];have h5 := hns _ _ d1 d2;rw [d3, hj] at h5;have h6 := (hcs _ d2).2;rw [Nat.add_assoc, d3] at h6;rw [h6, ← Option.some.inj h5]
   ·obtain ⟨j, hj⟩ := List.getElem?_of_mem hu;obtain ⟨q, hq⟩ : ∃ q, (flat ys)[j]? = some q := ⟨_, List.getElem?_eq_getElem (by rw [kW hl, ← hnl]; exact (List.getElem?_eq_some_iff.1 hj).1)⟩;obtain ⟨u', h5, h6⟩ := hrcs.at j q hq;have : u' = u := Option.some.inj (h5.symm.trans hj);subst this; exact h6.one.1
theorem tO {P : Go.Program} (w : World) (t ty e : TypeId) (i : TypeInfo) (z : Value) (size bytes : Nat) (ht : P.underlying t = some (.slice e)) (hi : P.info? e = some i) (hz : i.zero = some z) (hsize : i.size = size) (hby : i.bytes = bytes) (hzs : z.cells.size = size) (hsz : 0 < size)
 (v : Value) (n : Nat) (xs : List Value) (hown : rowAt w e size v n xs) (ad : Option Addr) (m c : Nat) (news : List Value) (hl : news.length = m * size) (hnews : ∀ (j : Nat) u, news[j]? = some u → ∃ a, ad = some a ∧ w.cell? (a.add j) = some u) (h1 : ∀ u ∈ news, u.oneCell' = true)
 (h63 : n + m ≤ maxLen) (hbytes : (n + m) * bytes ≤ 140737488355328) :
 ∃ v' w', (Builtin.append_ #[t, t] ty #[v, .slice ad m c]).run P w = .ok v' w' ∧ rowAt w' e size v' (n + m) (xs ++ news) ∧ w'.os = w.os ∧ w'.tape = w.tape ∧ w'.output = w.output ∧
   ((∃ g, v.ownBlock = some g ∧ v'.ownBlock = some g ∧ w'.heap.size = w.heap.size ∧ ∀ k, k ≠ g → w'.heap[k]? = w.heap[k]?) ∨ (Below w.heap.size w w' ∧ ∀ k, v'.ownBlock = some k → k = w.heap.size ∧ k < w'.heap.size) ∨ (v' = v ∧ w' = w)) := by
 subst hsize
 subst hby
 have hsmall : n + m ≤ 9223372036854775807 := by simp only [maxLen] at h63; omega
 have hlen : (xs ++ news).length = (n + m) * i.size := by rw [List.length_append, hown.1, hl, Nat.add_mul]
 by_cases hm : m = 0
 ·subst hm
  have hn : news = [] := List.eq_nil_of_length_eq_zero yF
  subst hn
  refine ⟨v, w, ?_, by simpa using hown, rfl, rfl, rfl, .inr (.inr ⟨rfl, rfl⟩)⟩
  rcases hown.2 with ⟨rfl, rfl⟩ | ⟨g, off, cap, cur, rfl, hg, hnc, hcm, hcs, htake⟩
  ·cases ad <;> simp [Builtin.append_, run_underlying ht, sizeOf, typeInfo, hi, Builtin.lenOf, Builtin.firstCells, loadCells, loadCellsFrom]
  ·cases ad <;> simp [Builtin.append_, run_underlying ht, sizeOf, typeInfo, hi, Builtin.lenOf, Builtin.firstCells, loadCells, loadCellsFrom, hnc, storeCells]
 ·have hpos : 0 < news.length := by rw [hl]; exact Nat.mul_pos (by omega) hsz
  obtain ⟨a, rfl, -⟩ := hnews 0 _ (List.getElem?_eq_getElem hpos)
  have hnews' : ∀ (j : Nat) u, news[j]? = some u → w.cell? (a.add j) = some u := fun j u hj => by
   exact VK
  have grown : ∀ (old : Nat), old < n + m →
   rowAt (w.drew.alloc (.cells (xs.toArray ++ news.toArray ++ Builtin.zeroCells z.cells (grownCap w (n + m) old e - (n + m))) e)) e i.size
    (.slice (some ⟨w.heap.size, 0, none⟩) (n + m) (grownCap w (n + m) old e)) (n + m) (xs ++ news) ∧
   Below w.heap.size w (w.drew.alloc (.cells (xs.toArray ++ news.toArray ++ Builtin.zeroCells z.cells (grownCap w (n + m) old e - (n + m))) e)) := by
   intro old ho
   have hge := grownCap_ge w (n + m) old e
   have hcm : grownCap w (n + m) old e ≤ maxLen := grownCap_le_maxLen w (n + m) old e h63
   refine ⟨⟨hlen, .inr ⟨w.heap.size, 0, _, _, rfl, heap_alloc_new w.drew _, hge, hcm, ?_, ?_⟩⟩, (Below.refl w.heap.size w).drew.alloc (Nat.le_refl _) _⟩
   ·simp only [Array.size_append, List.size_toArray, size_zeroCells, hzs, hown.1, hl, ← Nat.add_mul, Nat.zero_add]
    refine Nat.le_of_eq ?_
    congr 1
    omega
   ·simp only [Array.toList_append, List.append_assoc, List.drop_zero]
    rw [← List.append_assoc, ← hlen]
    exact List.take_left
  rcases hown.2 with ⟨rfl, rfl⟩ | ⟨g, off, cap, cur, rfl, hg, hnc, hcm, hcs, htake⟩
  ·have hx : xs = [] := List.eq_nil_of_length_eq_zero (by simpa using hown.1)
   subst hx
   have hr := run_append_nil (P := P) w t ty e i z ht hi hz a m c news hl hnews' (by omega) (by omega) Vx
   have hgr := grown 0 (by omega)
   simp only [Nat.zero_add, List.nil_append, Array.empty_append] at hgr ⊢
   exact ⟨_, _, hr, hgr.1, rfl, rfl, rfl, .inr (.inl ⟨hgr.2, fun k hk => by simp [Value.ownBlock] at hk; subst hk; exact ⟨rfl, by simp⟩⟩)⟩
  ·by_cases hroom : n + m ≤ cap
   ·have hbnd : (n + m) * i.size ≤ cap * i.size := Nat.mul_le_mul_right _ hroom
    have hadd : (n + m) * i.size = n * i.size + m * i.size := Nat.add_mul _ _ _
    have hf := run_firstCells_some (P := P) w i.size m a m c news hl hnews'
    obtain ⟨w', r1, r2, r3, r4, r5, r6, r7⟩ := jY (P := P) news (off + n * i.size) 0 cur.toList w (by simpa using hg) h1 CP
    refine ⟨.slice (some ⟨g, off, none⟩) (n + m) cap, w', ?_, ⟨hlen, .inr ⟨g, off, cap, _, rfl, r2, hroom, hcm, ?_, ?_⟩⟩, r3, r4, r5, .inl ⟨g, rfl, rfl, r6, r7⟩⟩
    ·have hst : ((⟨g, off, none⟩ : Addr).add (n * i.size)) = ⟨g, off + n * i.size, none⟩ := kg _ _ _
     simp [Builtin.append_, run_underlying ht, sizeOf, typeInfo, hi, Builtin.lenOf, hroom, hf, hst, r1]
    ·rw [List.size_toArray, kL _ _ _ CP, Array.length_toList]
     exact hcs
    ·have hx := hown.1
     have := uw cur.toList news ((cur.toList.drop off).take ((n + m) * i.size)) off (n * i.size) ((n + m) * i.size) rfl CP (by omega)
     simp only [Nat.add_zero] at this ⊢
     rw [this, List.take_take, Nat.min_eq_left (by omega), htake]
     rw [List.drop_eq_nil_of_le (by rw [List.length_take, List.length_drop, Array.length_toList]; omega)]
     simp
   ·have holds : ∀ (j : Nat) u, xs[j]? = some u → w.cell? ((⟨g, off, none⟩ : Addr).add j) = some u := fun j u hj => by
     rw [kg]; exact hown.cell rfl hj
    have hr := run_append_grow (P := P) w t ty e i z ht hi hz ⟨g, off, none⟩ n cap xs hown.1 holds a m c news hl hnews' (by omega) (by omega) (growslice_fits (by omega) hbytes)
    have hgr := grown cap (by omega)
    exact ⟨_, _, hr, hgr.1, rfl, rfl, rfl, .inr (.inl ⟨hgr.2, fun k hk => by simp [Value.ownBlock] at hk; subst hk; exact ⟨rfl, by simp⟩⟩)⟩
theorem rowAt.lt {ty : TypeId} {e : Nat} {v : Value} {n : Nat} {vs : List Value} (h : rowAt w ty e v n vs) {k : Nat} (hk : v.ownBlock = some k) : k < w.heap.size := by
 rcases h.2 with ⟨e1, -⟩ | ⟨g, o, c, cur, e1, hg, hnc, hm, hs, ht⟩
 ·rw [e1] at hk; simp [Value.ownBlock] at hk
 ·rw [e1] at hk; simp [Value.ownBlock] at hk; subst hk;exact (Array.getElem?_eq_some_iff.1 hg).1
theorem MR.JN (h : MR w0 I0 B I m w) {w' : World} {id e n : Nat} {xs ys : List (List C)} {vs news : List Value} {v' : Value} (hid : m id = some (.mrow e n xs)) (hvs : RCs w I vs (flat xs)) (hlx : ∀ x ∈ xs, x.length = n)
 (hI : ∀ b, (B id).ownBlock = some b → ∀ o, ¬ I b o) (hown : rowAt w' e n v' (xs.length + ys.length) (vs ++ news)) (hnews : RCs w I news (flat ys)) (hly : ∀ y ∈ ys, y.length = n) (h1 : w'.os = w.os) (h2 : w'.tape = w.tape) (h3 : w'.output = w.output)
 (h4 : (∃ g, (B id).ownBlock = some g ∧ v'.ownBlock = some g ∧ w'.heap.size = w.heap.size ∧ ∀ k, k ≠ g → w'.heap[k]? = w.heap[k]?) ∨ (Below w.heap.size w w' ∧ ∀ k, v'.ownBlock = some k → k = w.heap.size ∧ k < w'.heap.size) ∨ (v' = B id ∧ w' = w)) :
 MR w0 I0 (upd B id v') I (upd (fq id m) id (some (.mrow e n (xs ++ ys)))) w' ∧ Ext w w' I I := by
 have hsize : w.heap.size ≤ w'.heap.size := by
  exact Oj
 have hkeep : ∀ b, b < w.heap.size → (B id).ownBlock ≠ some b → w'.heap[b]? = w.heap[b]? := fun b hb hne => by
  exact V6
 have hE : Ext w w' I I := ⟨fun _ _ k => k, fun b o ho => World.cell?_of_block (w := w) (hkeep b (h.there b o ho) (fun e1 => hI b e1 o ho))⟩
 refine ⟨h.EZ hid h1 h2 h3 hsize (fun b hb hn => hkeep b hb (fun e => hn e)) (fun k hk => ?_) hE (fun b p hp => .inl hp) ⟨vs ++ news, ?_, ?_, fun x hx => ?_, fun b hb o ho => ?_⟩ (fun i hi => by simp [O.ids] at hi), hE⟩
 ·have hk : v'.ownBlock = some k := by simpa [foot, upd_same] using hk
  refine ⟨hown.lt hk, ?_⟩
  rcases h4 with ⟨g, k1, k2, -⟩ | ⟨-, k⟩ | ⟨k, -⟩
  ·exact .inl (by show (B id).ownBlock = _; rw [k1, ← k2, hk])
  ·exact .inr (by have := (k _ hk).1; omega)
  ·exact .inl (by show (B id).ownBlock = _; rw [← k, hk])
 ·rw [upd_same, List.length_append]; exact hown
 ·rw [flat, List.flatten_append]
  exact (hvs.mono hE).append (hnews.mono hE)
 ·rcases List.mem_append.1 hx with q | q
  ·exact hlx x q
  ·exact hly x q
 ·rw [upd_same] at hb
  rcases h4 with ⟨g, k1, k2, -⟩ | ⟨-, k⟩ | ⟨k, -⟩
  ·exact hI b (by rw [k1, ← k2, hb]) o ho
  ·have := (k _ hb).1
   have := h.there b o ho
   omega
  ·exact hI b (by rw [← k, hb]) o ho
end
def dW (fz : Bool) (e n : Nat) (xs : List (List C)) : O := if fz = true then .arr e n xs else .mrow e n xs
structure HAppend (T : Tab) (ops : Array Oper) (o : Oper) (st : St) (c : Call) (x y : Operand) (t d id e n b : Nat) (fz : Bool) (zs : List Value) (xs ys : List (List C)) : Prop where
 want : eH ops o st.s = some true
 op : o.op = .call c
 callee : c.callee = .builtin .append
 args : c.args = #[x, y]
 tys : c.argTypes = #[t, t]
 dst : o.dst = some d
 at_ : ev st.s x = .own id
 arr : st.m id = some (dW fz e n xs)
 val : asC st.m (ev st.s y) = some (.sl ys)
 elem : T.elem t = some (e, n)
 bytes : T.bytes e = some b
 zero : T.zero e = some zs
 zlen : zs.length = n
 lens : ∀ z ∈ ys, z.length = n
 bound : (xs.length + ys.length) * b ≤ 140737488355328
 small : xs.length + ys.length ≤ maxLen
section
variable {P : Go.Program} {T : Tab} (hT : T.Ok P) {kp : Nat → Prop} {ops : Array Oper}
theorem Nj {st : St} {id : Nat} {o0 o' : O} (hw : WF st) (_hid : st.m id = some o0) (hl : ∀ i ∈ o'.ids, (st.m i).isSome = true) (d : Nat) (r : A) (hr : ∀ i ∈ r.ids, (st.m i).isSome = true) : WF ⟨upd (iy id st.s) d r, upd (fq id st.m) id (some o')⟩ := by
 have hlv : ∀ i, (st.m i).isSome = true → (upd (fq id st.m) id (some o') i).isSome = true := fun i hi => by
  exact Uw
 refine ⟨fun t i hi => hlv i ?_, fun k z hz i hi => hlv i ?_⟩
 ·dsimp only at hi;unfold upd at hi;split at hi
  ·exact hr i hi
  ·exact hw.ids t i ((A.dx.1 i hi).1)
 ·dsimp only at hz;unfold upd at hz;split at hz
  ·cases hz; exact hl i hi
  ·have hz : (st.m k).map (O.kill id) = some z := hz;cases hk : st.m k with
   | none => rw [hk] at hz; cases hz
   | some o => rw [hk] at hz; cases hz; exact hw.live k _ hk i (O.dx i hi)
include hT
theorem BI {o : Oper} {st : St} {c : Call} {x y : Operand} {t d id e n b : Nat} {fz : Bool} {zs : List Value} {xs ys : List (List C)} (hkp : ¬ kp id) (h : HAppend T ops o st c x y t d id e n b fz zs xs ys) :
 Eff P T kp ops o st ⟨upd (iy id st.s) d (.own id), upd (fq id st.m) id (some (dW fz e n (xs ++ ys)))⟩ := by
 refine ⟨by rw [h.op]; simp [kind, h.callee], fun hw => ?_, fun R n0 ds a w K Q hR hr hd hK => ?_⟩
 ·refine Nj hw h.arr (fun i hi => ?_) d _ (fun i hi => ?_)
  ·cases fz <;> simp [dW, O.ids] at hi
  ·simp [A.ids] at hi; subst hi; simp [h.arr]
 ·obtain ⟨B, I, hm, hx0, hkp0, hs⟩ := hr.ex
  rw [fC hs h.want, if_pos rfl]
  obtain ⟨hu, hn0, i, hi, hin⟩ := hT.elem _ _ _ h.elem
  obtain ⟨i2, hi2, hib⟩ := hT.bytes _ _ h.bytes
  obtain ⟨i3, z, hi3, hz, hzc, -⟩ := hT.zero _ _ h.zero
  have e1 : i2 = i := Option.some.inj (hi2.symm.trans hi)
  have e2 : i3 = i := Option.some.inj (hi3.symm.trans hi)
  subst e1 e2
  have hx := gM hs x
  rw [h.at_] at hx
  obtain ⟨hx, -⟩ := hx
  obtain ⟨ad, my, cap, news, hyv, hn, hnl, hcellsN, hrcs, hone⟩ := DZ hn0 (ku hm h.val (gM hs y)) h.lens
  have fin : ∃ v' w' I', (Builtin.append_ #[t, t] o.type #[B id, .slice ad my cap]).run P w = .ok v' w' ∧ (∃ aa nn cc, v' = .slice aa nn cc) ∧ MR R.w0 R.I0 (upd B id v') I' (upd (fq id st.m) id (some (dW fz e n (xs ++ ys)))) w' ∧ Ext w w' I I' := by
   cases fz with
   | true =>
     obtain ⟨vs, hv, hvs, hlx, hiff⟩ := hm.objs id _ h.arr;obtain ⟨v', w', r1, r2, r3, r4, r5, r6⟩ := qG (P := P) w t o.type e i3 z n b hu hi3 hz hin hib Ku hn0 (B id) xs.length vs hv ad my cap news hnl hcellsN hone (by rw [← hn]; exact h.small) (by rw [← hn]; exact h.bound);rw [← hn] at r2;obtain ⟨I', hm', hE⟩ := hm.append h.arr hv hvs hlx hiff r2 hrcs h.lens r3 r4 r5 r6;exact ZF
   | false =>
     obtain ⟨vs, hv, hvs, hlx, hI⟩ := hm.objs id _ h.arr;obtain ⟨v', w', r1, r2, r3, r4, r5, r6⟩ := tO (P := P) w t o.type e i3 z n b hu hi3 hz hin hib Ku hn0 (B id) xs.length vs hv ad my cap news hnl hcellsN hone (by rw [← hn]; exact h.small) (by rw [← hn]; exact h.bound);rw [← hn] at r2;obtain ⟨hm', hE⟩ := hm.JN h.arr hvs hlx hI r2 hrcs h.lens r3 r4 r5 r6;exact TV
  obtain ⟨v', w', I', r1, hsh, hm', hE⟩ := fin
  have hrun : (execOp a.eval o).run P w = .ok (.value v') w' := by
   exact MI
  unfold Oper.wp Oper.upon
  rw [hrun]
  have hdlt : ∀ q, o.dst = some q → q < a.tmps.size := fun q hq => by rw [hr.size]; exact hd q hq
  have hkill : ∀ t', RV (upd B id v') w' I' ((st.s t').kill id) (a.tmps.getD t' undef) := fun t' => by
   rcases (A.dx (id := id) (a := st.s t')).2 with q | ⟨q, hnn⟩
   ·rw [q]; trivial
   ·rw [q];exact (hs t').mono hE fun j hj => upd_ne _ _ (fun e => hnn (e ▸ hj))
  have hput := za (dst := o.dst) (r := A.own id) (v := v') hkill ⟨(upd_same B id v').symm, hsh⟩ hdlt
  rw [h.dst] at hput
  have hwf : WF ⟨upd (iy id st.s) d (.own id), upd (fq id st.m) id (some (dW fz e n (xs ++ ys)))⟩ := Nj hr.wf h.arr (fun i hi => by cases fz <;> simp [dW, O.ids] at hi) d _ (fun i hi => by simp [A.ids] at hi; subst hi; simp [h.arr])
  refine hK _ _ ⟨⟨_, I', hm', hx0.trans hE, fun j hj => ?_, by rw [h.dst]; exact hput⟩, hwf.ids, by rw [(gX _ _ _).1]; exact hr.size, hr.nn, by
   rw [(gX _ _ _).2];have hdd : DID ≠ d := fun q => absurd (hd d h.dst) (Nat.not_lt.2 (q ▸ hr.nn))
   show a.defers = dfs (upd (iy id st.s) d (.own id) DID) ++ ds;rw [upd_ne _ _ hdd, bB, oL]; exact hr.defs, fun j hj => ?_⟩
  ·rw [upd_ne _ _ (fun e => by subst e; rw [hR] at hj; exact hkp hj)]; exact hkp0 j hj
  ·have := hr.kept j hj
   show (upd (fq id st.m) id _ j).isSome = true
   unfold upd; split
   ·rfl
   ·simpa [aB] using this
omit hT
def WFm (m : Mem) : Prop := ∀ id o, m id = some o → ∀ j ∈ o.ids, (m j).isSome = true
def dJ (P : Go.Program) (f : FuncId) (args : List A) (M : Mem) (D : List Nat) (r : A) (M' : Mem) : Prop :=
 (∀ args w, (callFunc f args).run P w = .ok (.enter f args) w) ∧ (∀ j ∈ r.ids, (M' j).isSome = true) ∧ (∀ j, (M j).isSome = true → (M' j).isSome = true) ∧ (WFm M → WFm M') ∧
 ∀ (w0 : World) (I0 : Nat → Nat → Prop) (B : Nat → Value) (I : Nat → Nat → Prop) (w : World) (vals : List Value), MR w0 I0 B I M w → RVl B w I args vals →
   Calls P f vals.toArray w fun e w' => ∃ v B' I', e = .returned v ∧ MR w0 I0 B' I' M' w' ∧ Ext w w' I I' ∧ (∀ j, (M j).isSome = true → j ∉ D → B' j = B j) ∧ RV B' w' I' r v
def dw : List Nat → (Nat → A) → Nat → A
 | [], s => s
 | d :: D, s => dw D (iy d s)
theorem kM : ∀ (D : List Nat) (s : Nat → A) (t : Nat), (∀ j ∈ (dw D s t).ids, j ∈ (s t).ids ∧ j ∉ D) ∧ (dw D s t = .top ∨ (dw D s t = s t ∧ ∀ j ∈ D, j ∉ (s t).ids))
 | [], s, t => ⟨fun j hj => ⟨hj, by simp⟩, .inr ⟨rfl, fun j hj => by simp at hj⟩⟩
 | d :: D, s, t => by
   obtain ⟨h1, h2⟩ := kM D (iy d s) t;have h3 := A.dx (id := d) (a := s t);refine ⟨fun j hj => ?_, ?_⟩
   ·obtain ⟨k1, k2⟩ := h1 j hj;obtain ⟨k3, k4⟩ := h3.1 j k1;exact ⟨k3, by simp [k4, k2]⟩
   ·rcases h2 with h2 | ⟨h2, h4⟩
    ·exact .inl h2
    ·rcases h3.2 with h5 | ⟨h5, h6⟩
     ·exact .inl (h2.trans h5)
     ·refine .inr ⟨h2.trans h5, fun j hj => ?_⟩;rcases List.mem_cons.1 hj with rfl | hj
      ·exact h6
      ·have := h4 j hj;rw [bB, h5] at this;exact this
theorem xG : ∀ (D : List Nat) (s : Nat → A), dfs (dw D s DID) = dfs (s DID)
 | [], _ => rfl
 | d :: D, s => (xG D (iy d s)).trans (oL d (s DID))
theorem BM {o : Oper} {st : St} {c : Call} {x : Operand} {f : FuncId} {ids : List Nat} {args : List A} {D : List Nat} {r : A} {M' : Mem} (hkp : ∀ j ∈ D, ¬ kp j) (hbar : kind T o.op = .barrier) (h : eH ops o st.s = some true) (hop : o.op = .call c) (hc : c.callee = .value x) (hx : ev st.s x = .fn f ids) (hb : ∀ j ∈ ids, ∃ ty cells, st.m j = some (.box ty cells))
 (ha : Cvs st.m (c.args.toList.map (ev st.s) ++ ids.map (A.ptr · 0)) args) (hk : dJ P f args st.m D r M') : Eff P T kp ops o st ⟨eY (dw D st.s) o.dst r, M'⟩ := by
 obtain ⟨k1, k2, k3, k4, k5⟩ := hk
 refine ⟨hbar, fun hw => ⟨wR (fun t j hj => k3 j (hw.ids t j ((kM D st.s t).1 j hj).1)) k2, k4 hw.live⟩, fun R n0 ds a w K Q hR hr hd hK => ?_⟩
 obtain ⟨B, I, hm, hx0, hkp0, hs⟩ := hr.ex
 rw [fC hs h, if_pos rfl]
 have hev := gM hs
 have hfv : a.eval x = .func (.func f) #[] (ids.map B).toArray := by have := hev x; rw [hx] at this; exact this
 have hrv := sV hm ha ((nS hev c.args.toList).append (mX hm hb))
 have hcl := k5 R.w0 R.I0 B I w _ hm hrv
 unfold Oper.wp Oper.upon
 have hrun : (execOp a.eval o).run P w = .ok (.enter f (c.args.toList.map a.eval ++ ids.map B).toArray) w := by
  exact ZY
 rw [hrun]
 refine hcl.mono ?_
 rintro e w' ⟨v, B', I', rfl, h1, h2, h3, h4⟩
 have hd' : ∀ d, o.dst = some d → d < a.tmps.size := fun d e => by rw [hr.size]; exact hd d e
 have hs' : ∀ t, RV B' w' I' (dw D st.s t) (a.tmps.getD t undef) := fun t => by
  exact abf
 exact hK _ _ ⟨⟨B', I', h1, hx0.trans h2, fun j hj => (h3 j (hr.kept j hj) (fun hd => by rw [hR] at hj; exact hkp j hd hj)).trans (hkp0 j hj), za hs' h4 hd'⟩,
  wR (fun t j hj => k3 j (hr.ids t j ((kM D st.s t).1 j hj).1)) k2, by rw [(gX _ _ _).1]; exact hr.size, hr.nn, by rw [(gX _ _ _).2]; show a.defers = dfs (eY (dw D st.s) o.dst r DID) ++ ds; rw [F7 hr.nn hd, xG]; exact hr.defs, fun j hj => k3 j (hr.kept j hj)⟩
end
inductive RunL (P : Go.Program) (T : Tab) (kp : Nat → Prop) (base : Nat) (ops : Array Oper) : List Oper → St → St → Prop where
 | nil (st : St) : RunL P T kp base ops [] st st
 | cons {o : Oper} {l : List Oper} {st st1 st2 : St} (h : HS P T kp base ops o st st1) (t : RunL P T kp base ops l st1 st2) : RunL P T kp base ops (o :: l) st st2
section
variable {P : Go.Program} {T : Tab} {kp : Nat → Prop} {base : Nat} {ops : Array Oper}
theorem RunL.chain : ∀ {l : List Oper} {k : Nat} {st st' : St}, (∀ j, l[j]? = ops[k + j]?) → RunL P T kp base ops l st st' → Chain P T kp base ops (List.range' k l.length) st st'
 | [], _, _, _, _, h => by cases h; exact .nil _
 | o :: l, k, _, _, hl, h => by
   cases h with
   | cons h t =>
     refine .cons (by simpa using (hl 0).symm) h (t.chain fun j => ?_);have := hl (j + 1);rw [Nat.add_right_comm, Nat.add_assoc];simpa [Nat.add_comm, Nat.add_left_comm] using this
theorem D8 (n : Nat) : List.range n = List.range' 0 n := by rw [List.range_eq_range']
variable (hT : T.Ok P) {R : Ref} {w : World} {n : Nat} {ds : List Deferred}
include hT
theorem DI (hd : ∀ o ∈ ops, ∀ d, o.dst = some d → d < n) {Q : Exit → Act → World → Prop} {st' : St} (hQ : ∀ a w, SR R n ds st' a w → Q .normal a w) :
 ∀ (l : List Nat) (st : St) (a : Act) (w : World), Chain P T R.keep base ops l st st' → SR R n ds st a w → wpOps P ops Q l a w
 | [], st, a, w, h, hr => by cases h; exact hQ a w hr
 | i :: l, st, a, w, h, hr => by
   cases h with
   | @cons _ o _ _ st1 _ hi h1 t =>
     rw [wpOps_cons];unfold wpOp;rw [hi];have hgo := h1.snd hT hr (hd o (Array.mem_of_getElem? hi)) (K := wpOps P ops Q l) (Q := Q) (fun a' w' hr' => DI hd hQ l st1 a' w' t hr');exact Tf
end
def jX (n : Nat) (ops : Array Oper) : Bool := ops.toList.all fun o => match o.dst with | some d => decide (d < n) | none => true
theorem iw {n : Nat} {ops : Array Oper} (h : jX n ops = true) : ∀ o ∈ ops, ∀ d, o.dst = some d → d < n := fun o ho d hd => by
 have := List.all_eq_true.1 h o (by simpa using ho);rw [hd] at this;simpa using this
def W (P : Go.Program) (R : Ref) (n : Nat) (ds : List Deferred) (st : St) (c : Code) (K : Exit → St → Prop) : Prop :=
 ∀ a w, SR R n ds st a w → c.wp P (fun e a' w' => ∃ st', K e st' ∧ SR R n ds st' a' w') a w
@[reducible] def yG (k : St → Prop) (K : Exit → St → Prop) : Exit → St → Prop
  | .normal, st => k st
  | e, st => K e st
@[reducible] def Jj (id : Nat) (K : Exit → St → Prop) : Exit → St → Prop
  | .exit j, st => if j = id then K .normal st else K (.exit j) st
  | e, st => K e st
section
variable {P : Go.Program} {T : Tab} {R : Ref} {n : Nat} {ds : List Deferred} {st : St} {K : Exit → St → Prop}
theorem W.mono {c : Code} {K' : Exit → St → Prop} (h : W P R n ds st c K) (hk : ∀ e st', K e st' → K' e st') : W P R n ds st c K' :=
 fun a w hr => wp_mono (h a w hr) fun e _ _ ⟨st', h1, h2⟩ => ⟨st', hk e st' h1, h2⟩
theorem W.region (hT : T.Ok P) (base : Nat) {id : Nat} {ops : Array Oper} {st' : St} (hd : jX n ops = true) (h : RunL P T R.keep base ops ops.toList st st') (hk : K .normal st') : W P R n ds st (.region id ops false) K := fun a w hr =>
 wp_region (DI hT (iw hd) (fun a w hr' => ⟨st', hk, hr'⟩) _ st a w QM hr)
theorem W.Ep (hT : T.Ok P) (base : Nat) {id : Nat} {ops : Array Oper} {st' : St} (hm : P.follows .mixedOrders = true) (hok : q9 T ops = true) (hd : jX n ops = true) (h : RunL P T R.keep base ops ops.toList st st') (hk : K .normal st') : W P R n ds st (.region id ops true) K := fun a w hr => by
 refine wp_region_any hm (Jq hT hok (iw hd) (fun a w hr' => ⟨st', hk, hr'⟩) _ _ (List.range ops.size) st a _ (by simp) (by simp) (List.pairwise_lt_range) (fun i => ?_) (fun k o ho hl => ?_) ?_ QM)
 ·exact Ua
 ·exact UU
 ·exact Yu
theorem W.seq {x y : Code} (h : W P R n ds st x (yG (fun st' => W P R n ds st' y K) K)) : W P R n ds st (.seq x y) K := fun a w hr =>
 wp_seq (wp_mono (h a w hr) fun e a' w' ⟨st', h1, h2⟩ => by
  cases e with
  | normal => exact h1 a' w' h2
  | _ => exact ⟨st', h1, h2⟩)
theorem W.cond {c : Operand} {x y : Code} {b : Bool} (hc : ev st.s c = .c (.bool b)) (ht : b = true → W P R n ds st x K) (hf : b = false → W P R n ds st y K) : W P R n ds st (.cond c x y) K := fun a w hr => by
 obtain ⟨B, I, hm, -, -, hs⟩ := hr.ex;have := gM hs c;rw [hc] at this;exact wp_cond_split (RC.toBool this) (fun e => ht e a w hr) (fun e => hf e a w hr)
theorem W.block {id : Nat} {c : Code} (h : W P R n ds st c (Jj id K)) : W P R n ds st (.block id c) K := fun a w hr =>
 wp_block (wp_mono (h a w hr) fun e a' w' ⟨st', h1, h2⟩ => by
  cases e with
  | exit j =>
    exact ZX
  | _ => exact ⟨st', h1, h2⟩)
theorem W.exit {id : Nat} (h : K (.exit id) st) : W P R n ds st (.exit id) K := fun _ _ hr => wp_exit ⟨st, h, hr⟩
theorem W.ret (h : K .ret st) : W P R n ds st .ret K := fun _ _ hr => wp_ret ⟨st, h, hr⟩
theorem W.skip (h : K .normal st) : W P R n ds st .skip K := fun _ _ hr => wp_skip ⟨st, h, hr⟩
def A1.ren (τ : Nat → Nat) : A1 → A1
 | .ptr id off => .ptr (τ id) off
 | .own id => .own (τ id)
 | .map id => .map (τ id)
 | a => a
def A.ren (τ : Nat → Nat) : A → A
 | .ptr id off => .ptr (τ id) off
 | .own id => .own (τ id)
 | .fn f ids => .fn f (ids.map τ)
 | .pinP v id off => .pinP v (τ id) off
 | .eptr id e i f => .eptr (τ id) e i f
 | .win id e lo hi => .win (τ id) e lo hi
 | .map id => .map (τ id)
 | .tupA xs => .tupA (xs.map (A1.ren τ))
 | .aggA xs => .aggA (xs.map (A1.ren τ))
 | a => a
def O.ren (τ : Nat → Nat) : O → O
 | .box ty cells => .box ty (cells.map (A.ren τ))
 | .rows ty xs => .rows ty (xs.map (A1.ren τ))
 | .map ents => .map (ents.map fun p => (p.1.ren τ, p.2.ren τ))
 | o => o
theorem R1.ren {B : Nat → Value} {w : World} {I : Nat → Nat → Prop} {τ : Nat → Nat} {a : A1} {v : Value} (h : R1 B w I (a.ren τ) v) : R1 (fun j => B (τ j)) w I a v := by
 cases a <;> exact h
theorem R1s.ren {B : Nat → Value} {w : World} {I : Nat → Nat → Prop} {τ : Nat → Nat} : ∀ {al : List A1} {vs : List Value}, R1s B w I (al.map (A1.ren τ)) vs → R1s (fun j => B (τ j)) w I al vs
 | [], [], _ => trivial
 | _ :: _, _ :: _, h => ⟨h.1.ren, R1s.ren h.2⟩
theorem RV.ren {B : Nat → Value} {w : World} {I : Nat → Nat → Prop} {τ : Nat → Nat} {a : A} {v : Value} (h : RV B w I (a.ren τ) v) : RV (fun j => B (τ j)) w I a v := by
 cases a with
 | fn f ids => show v = _; rw [show v = _ from h]; simp [Function.comp_def]
 | tupA xs => obtain ⟨vs, h1, h2⟩ := h; exact ⟨vs, h1, h2.ren⟩
 | aggA xs => obtain ⟨vs, h1, h2, h3⟩ := h; exact ⟨vs, h1, h2.ren, h3⟩
 | _ => exact h
theorem RVs.ren {B : Nat → Value} {w : World} {I : Nat → Nat → Prop} {τ : Nat → Nat} : ∀ {al : List A} {vs : List Value}, RVs B w I (al.map (A.ren τ)) vs → RVs (fun j => B (τ j)) w I al vs
 | [], [], _ => trivial
 | _ :: _, _ :: _, h => ⟨⟨h.1.1.ren, h.1.2⟩, RVs.ren h.2⟩
theorem REs.ren {B : Nat → Value} {w : World} {I : Nat → Nat → Prop} {τ : Nat → Nat} : ∀ {l : List (A1 × A1)} {es : List MapEntry}, REs B w I (l.map fun p => (p.1.ren τ, p.2.ren τ)) es → REs (fun j => B (τ j)) w I l es
 | [], [], _ => trivial
 | _ :: _, _ :: _, h => ⟨⟨h.1.1.ren, h.1.2.ren⟩, REs.ren h.2⟩
theorem RO.ren {B : Nat → Value} {w : World} {I : Nat → Nat → Prop} {τ : Nat → Nat} {j : Nat} {o : O} (h : RO B w I (τ j) (o.ren τ)) : RO (fun j => B (τ j)) w I j o := by
 cases o with
 | box ty cells => obtain ⟨b, vs, h1, h2, h3, h4⟩ := h; exact ⟨b, vs, h1, h2, h3.ren, h4⟩
 | rows ty xs => obtain ⟨vs, h1, h2, h3, h4⟩ := h; rw [List.length_map] at h1; exact ⟨vs, h1, h2.ren, h3, h4⟩
 | map ents => obtain ⟨r, es, clock, h1, h2, h3, h4⟩ := h; exact ⟨r, es, clock, h1, h2, h3.ren, h4⟩
 | _ => exact h
theorem zP {B : Nat → Value} {τ : Nat → Nat} {j k : Nat} {o : O} : foot (fun j => B (τ j)) j o k ↔ foot B (τ j) (o.ren τ) k := by
 cases o <;> exact Iff.rfl
structure LeT (τ : Nat → Nat) (kp : Nat → Prop) (st st' : St) : Prop where
 s : ∀ t, st'.s t = .top ∨ (st'.s t).ren τ = st.s t
 m : ∀ j o, st'.m j = some o → st.m (τ j) = some (o.ren τ)
 inj : ∀ i j, (st'.m i).isSome = true → (st'.m j).isSome = true → τ i = τ j → i = j
 wf : WF st'
 kept : ∀ j, kp j → τ j = j ∧ (st'.m j).isSome = true
 dd : dfs (st'.s DID) = dfs (st.s DID)
theorem SR.leT {τ : Nat → Nat} {st' : St} {a : Act} {w : World} (h : SR R n ds st a w) (hl : LeT τ R.keep st st') : SR R n ds st' a w := by
 obtain ⟨⟨B, I, hm, hx0, hkp, hs⟩, -, h3, hnn, h4, -⟩ := h;refine ⟨⟨fun j => B (τ j), I, ⟨hm.below, hm.glob, hm.base, hm.old, hm.there, fun id o ho => RO.ren (hm.objs _ _ (hl.m id o ho)), fun id o ho k hk => hm.low _ _ (hl.m id o ho) k (zP.1 hk), fun id o id' o' ho ho' hne k hk hk' => ?_, hl.wf.live⟩, hx0, fun j hj => ?_, fun t => ?_⟩, hl.wf.ids, h3, hnn, by rw [hl.dd]; exact h4, fun j hj => (hl.kept j hj).2⟩
 ·exact hm.apart _ _ _ _ (hl.m id o ho) (hl.m id' o' ho') (fun e => hne (hl.inj id id' (by simp [ho]) (by simp [ho']) e)) k (zP.1 hk) (zP.1 hk')
 ·show B (τ j) = _;rw [(hl.kept j hj).1]; exact hkp j hj
 ·rcases hl.s t with e | e
  ·rw [e]; trivial
  ·refine RV.ren ?_;rw [e]; exact hs t
structure Le (kp : Nat → Prop) (st st' : St) : Prop where
 s : ∀ t, st'.s t = .top ∨ st'.s t = st.s t
 m : ∀ j, st'.m j = none ∨ st'.m j = st.m j
 wf : WF st'
 kept : ∀ j, kp j → (st'.m j).isSome = true
 dd : dfs (st'.s DID) = dfs (st.s DID)
theorem SR.le {st' : St} {a : Act} {w : World} (h : SR R n ds st a w) (hl : Le R.keep st st') : SR R n ds st' a w := by
 obtain ⟨⟨B, I, hm, hx0, hkp, hs⟩, -, h3, hnn, h4, -⟩ := h;have hmm : ∀ {j : Nat} {o : O}, st'.m j = some o → st.m j = some o := fun {j o} hj => by
  rcases hl.m j with e | e
  ·rw [e] at hj; cases hj
  ·rw [← e]; exact hj
 refine ⟨⟨B, I, ⟨hm.below, hm.glob, hm.base, hm.old, hm.there, fun id o ho => hm.objs id o (hmm ho), fun id o ho => hm.low id o (hmm ho), fun id o id' o' ho ho' => hm.apart id o id' o' (hmm ho) (hmm ho'), hl.wf.live⟩, hx0, hkp, fun t => ?_⟩, hl.wf.ids, h3, hnn, by rw [hl.dd]; exact h4, hl.kept⟩;rcases hl.s t with e | e
 ·rw [e]; trivial
 ·rw [e]; exact hs t
theorem W.weaken {st' : St} {c : Code} (hl : Le R.keep st st') (h : W P R n ds st' c K) : W P R n ds st c K := fun a w hr => h a w (hr.le hl)
theorem W.loop {ι : Type} {c : Code} (mk : ι → St) (Inv : ι → Prop) (μ : ι → Nat) (i0 : ι) (hl : Le R.keep st (mk i0)) (h0 : Inv i0)
 (hround : ∀ i, Inv i → W P R n ds (mk i) c (yG (fun st' => ∃ i', Inv i' ∧ μ i' < μ i ∧ Le R.keep st' (mk i')) K)) : W P R n ds st (.loop c) K := by
 refine W.weaken hl ?_
 intro a w hr
 refine wp_loop_ghost (fun k a w => ∃ i, Inv i ∧ μ i = k ∧ SR R n ds (mk i) a w) (μ i0) ⟨i0, h0, rfl, hr⟩ ?_
 rintro k a w ⟨i, hi, rfl, hr⟩
 refine wp_mono (hround i hi a w hr) ?_
 rintro e a' w' ⟨st', h1, h2⟩
 cases e with
 | normal =>
   exact SQ
 | _ => exact ⟨st', h1, h2⟩
end
def ay (T : Tab) (st : St) : ResultVar → Option A
 | .tmp t => some (st.s t)
 | .cell a ty => match st.s a with
   | .ptr j off => (match st.m j with | some (.box _ cells) => ld T st.m ty (cells.drop off) | _ => none)
   | _ => none
def fin (m : Mem) : A → Option A
 | .agg xs => some (.agg xs)
 | a => match asC m a with | some x => some (.c x) | none => none
def toT (m : Mem) : A → Option (Bool × List C)
 | .agg xs => some (true, xs)
 | a => match asC m a with | some x => some (false, [x]) | none => none
def aU (T : Tab) (st : St) : List ResultVar → Option A
 | [x] => match ay T st x with | some a => fin st.m a | none => none
 | [] => some (.tup [])
 | [x, y] => match ay T st x, ay T st y with
   | some a, some b => (match toT st.m a, toT st.m b with | some p, some q => some (.tup [p, q]) | _, _ => none)
   | _, _ => none
 | [x, y, z] => match ay T st x, ay T st y, ay T st z with
   | some a, some b, some c => (match toT st.m a, toT st.m b, toT st.m c with | some p, some q, some r => some (.tup [p, q, r]) | _, _, _ => none)
   | _, _, _ => none
 | _ => none
def Bj (tmps : Array Value) : ResultVar → Sem Value
 | .tmp t => pure (tmps.getD t undef)
 | .cell a t => do loadVar t (← asAddr (tmps.getD a undef))
section
variable {P : Go.Program} {T : Tab} (hT : T.Ok P) {w0 w : World} {I0 I : Nat → Nat → Prop} {B : Nat → Value} {st : St} {a : Act}
include hT
theorem fM (hm : MR w0 I0 B I st.m w) (hs : ∀ t, RV B w I (st.s t) (a.tmps.getD t undef)) {x : ResultVar} {r : A} (h : ay T st x = some r) : ∃ v, (Bj a.tmps x).run P w = .ok v w ∧ RV B w I r v := by
 cases x with
 | tmp t => cases h; exact ⟨_, rfl, hs t⟩
 | cell p ty =>
   simp only [ay] at h;have hp := hs p;split at h
   ·rename_i j off e;rw [e] at hp;obtain ⟨b, hB, e2⟩ := hp;split at h
    ·rename_i ty' cells hj;obtain ⟨b', vs, hB', hh, hv, -⟩ := hm.objs j _ hj;rw [hB] at hB';cases hB'
     have hcell : ∀ (k : Nat) v, (vs.drop off)[k]? = some v → w.cell? ⟨b, off + k, none⟩ = some v := fun k v hk => by
      exact Vk
     have hvd := hv.drop off;unfold ld at h;split at h
     ·rename_i n hty;split at h
      ·rename_i hn;split at h
       ·rename_i xs hxs;cases h
        have hlen := hvd.length;refine ⟨.agg ((vs.drop off).take n).toArray, ?_, _, rfl, kY hm hxs (hvd.take n)⟩;exact aaz
       ·split at h
        ·rename_i ys hys;cases h
         have hlen := hvd.length;obtain ⟨k1, k2⟩ := oC hys (hvd.take n);refine ⟨.agg ((vs.drop off).take n).toArray, ?_, _, rfl, k1, k2⟩;exact aaz
        ·cases h
      ·cases h
     ·rename_i n hty;cases hcd : cells.drop off with
      | nil => rw [hcd] at h; cases h
      | cons y ys =>
        rw [hcd] at h hvd;cases h
        cases hvd2 : vs.drop off with
        | nil => rw [hvd2] at hvd; exact hvd.elim
        | cons u us =>
          rw [hvd2] at hvd;have hc0 : w.cell? ⟨b, off, none⟩ = some u := by have := hcell 0 u (by rw [hvd2]; rfl); simpa using this
          refine ⟨u, ?_, hvd.1.1⟩;simp only [Bj, e2, asAddr, Sem.run_bind, Sem.run_pure, Result.andThen_ok];exact qW hT hty hc0
     ·cases h
    ·cases h
   ·cases h
omit hT in
theorem vX (hm : MR w0 I0 B I st.m w) {r : A} {p : Bool × List C} {v : Value} (h : toT st.m r = some p) (hv : RV B w I r v) : RT w I v p := by
 unfold toT at h;split at h
 ·cases h; exact hv
 ·split at h
  ·rename_i x hx;cases h
   exact ⟨x, rfl, ku hm hx hv⟩
  ·cases h
omit hT in
theorem Rm (hm : MR w0 I0 B I st.m w) {r r' : A} {v : Value} (h : fin st.m r = some r') (hv : RV B w I r v) : RV B w I r' v ∧ r'.ids = [] := by
 unfold fin at h;split at h
 ·cases h; exact ⟨hv, rfl⟩
 ·split at h
  ·rename_i x hx;cases h
   exact ⟨ku hm hx hv, rfl⟩
  ·cases h
theorem uZ (hm : MR w0 I0 B I st.m w) (hs : ∀ t, RV B w I (st.s t) (a.tmps.getD t undef)) {fn : Func} {l : List ResultVar} {r : A} (hl : fn.results.toList = l) (h : aU T st l = some r) :
 ∃ v, (results fn a.tmps).run P w = .ok v w ∧ RV B w I r v ∧ r.ids = [] := by
 have hf : fn.results = l.toArray := by rw [← hl]
 have e : results fn a.tmps = (do let vs ← l.toArray.mapM (Bj a.tmps); pure (if h : vs.size = 1 then vs[0] else .tuple vs)) := by
  unfold results;rw [hf];rfl
 rw [e]
 unfold aU at h
 split at h
 ·rename_i x
  split at h
  ·rename_i a' hx
   obtain ⟨v, h1, h2⟩ := fM hT hm hs hx
   obtain ⟨h3, h4⟩ := Rm hm h h2
   exact ⟨v, by simp [h1], h3, h4⟩
  ·cases h
 ·cases h
  exact ⟨.tuple #[], by simp, ⟨[], rfl, trivial⟩, rfl⟩
 ·rename_i x y
  split at h
  ·rename_i a' b' hx hy
   split at h
   ·rename_i p q hp hq
    cases h
    obtain ⟨v, h1, h2⟩ := fM hT hm hs hx
    obtain ⟨u, h3, h4⟩ := fM hT hm hs hy
    exact ⟨.tuple #[v, u], by simp [Sem.run_bind, h1, h3], ⟨[v, u], rfl, vX hm hp h2, vX hm hq h4, trivial⟩, rfl⟩
   ·cases h
  ·cases h
 ·rename_i x y z
  split at h
  ·rename_i a' b' c' hx hy hz
   split at h
   ·rename_i p q s hp hq hs'
    cases h
    obtain ⟨v, h1, h2⟩ := fM hT hm hs hx
    obtain ⟨u, h3, h4⟩ := fM hT hm hs hy
    obtain ⟨z, h5, h6⟩ := fM hT hm hs hz
    exact ⟨.tuple #[v, u, z], by simp [Sem.run_bind, h1, h3, h5], ⟨[v, u, z], rfl, vX hm hp h2, vX hm hq h4, vX hm hs' h6, trivial⟩, rfl⟩
   ·cases h
  ·cases h
 ·cases h
end
def entry (args : List A) : Nat → A := fun t => args.getD t .undef
theorem oG {B : Nat → Value} {w : World} {I : Nat → Nat → Prop} {m : Nat} : ∀ {args : List A} {vals : List Value}, RVl B w I args vals → ∀ t, RV B w I (entry args t) ((vals.toArray ++ Array.replicate m undef).getD t undef) := by
 intro args vals h t;have e : (vals.toArray ++ Array.replicate m undef).getD t undef = (vals ++ List.replicate m undef)[t]?.getD undef := by
  rw [Array.getD_eq_getD_getElem?, ← Array.getElem?_toList]; simp
 rw [e];unfold entry;rw [List.getD_eq_getElem?_getD];clear e;induction args generalizing vals t with
 | nil =>
   cases vals with
   | nil =>
     show _ = _;rw [List.nil_append, List.getElem?_replicate];split <;> rfl
   | cons _ _ => exact h.elim
 | cons a al ih =>
   cases vals with
   | nil => exact h.elim
   | cons v vs =>
     cases t with
     | zero => exact h.1
     | succ t => exact ih h.2 t
def resE (T : Tab) (st : St) : List ResultVar → Option A
 | [x] => ay T st x
 | [] => some (.tup [])
 | [x, y] => match ay T st x, ay T st y with
   | some a, some b => (match a.down, b.down with | some p, some q => some (.tupA [p, q]) | _, _ => none)
   | _, _ => none
 | [x, y, z] => match ay T st x, ay T st y, ay T st z with
   | some a, some b, some c => (match a.down, b.down, c.down with | some p, some q, some r => some (.tupA [p, q, r]) | _, _, _ => none)
   | _, _, _ => none
 | _ => none
theorem zO {P : Go.Program} {T : Tab} (hT : T.Ok P) {w0 w : World} {I0 I : Nat → Nat → Prop} {B : Nat → Value} {st : St} {a : Act} (hm : MR w0 I0 B I st.m w) (hs : ∀ t, RV B w I (st.s t) (a.tmps.getD t undef)) {fn : Func} {l : List ResultVar} {r : A} (hl : fn.results.toList = l) (h : resE T st l = some r) :
 ∃ v, (results fn a.tmps).run P w = .ok v w ∧ RV B w I r v := by
 have hf : fn.results = l.toArray := by rw [← hl]
 have e : results fn a.tmps = (do let vs ← l.toArray.mapM (Bj a.tmps); pure (if h : vs.size = 1 then vs[0] else .tuple vs)) := by
  unfold results;rw [hf];rfl
 rw [e]
 unfold resE at h
 split at h
 ·rename_i x
  obtain ⟨v, h1, h2⟩ := fM hT hm hs h
  exact ⟨v, by simp [h1], h2⟩
 ·cases h
  exact ⟨.tuple #[], by simp, ⟨[], rfl, trivial⟩⟩
 ·rename_i x y
  split at h
  ·rename_i a' b' hx hy
   split at h
   ·rename_i p q hp hq
    cases h
    obtain ⟨v, h1, h2⟩ := fM hT hm hs hx
    obtain ⟨u, h3, h4⟩ := fM hT hm hs hy
    exact ⟨.tuple #[v, u], by simp [Sem.run_bind, h1, h3], ⟨[v, u], rfl, kU hp h2, kU hq h4, trivial⟩⟩
   ·cases h
  ·cases h
 ·rename_i x y z
  split at h
  ·rename_i a' b' c' hx hy hz
   split at h
   ·rename_i p q s hp hq hs'
    cases h
    obtain ⟨v, h1, h2⟩ := fM hT hm hs hx
    obtain ⟨u, h3, h4⟩ := fM hT hm hs hy
    obtain ⟨z, h5, h6⟩ := fM hT hm hs hz
    exact ⟨.tuple #[v, u, z], by simp [Sem.run_bind, h1, h3, h5], ⟨[v, u, z], rfl, kU hp h2, kU hq h4, kU hs' h6, trivial⟩⟩
   ·cases h
  ·cases h
 ·cases h
theorem XQ {T : Tab} {m : Mem} {ty : Nat} {l : List A} {r : A} (h : ld T m ty l = some r) : ∀ j ∈ r.ids, j ∈ l.flatMap A.ids := by
 unfold ld at h;split at h
 ·split at h
  ·split at h
   ·cases h; intro j hj; simp [A.ids] at hj
   ·split at h
    ·rename_i ys hys;cases h
     intro j hj;obtain ⟨x, hx1, hx2⟩ := List.mem_flatMap.1 (mg hys j hj);exact List.mem_flatMap.2 ⟨x, List.mem_of_mem_take hx1, hx2⟩
    ·cases h
  ·cases h
 ·intro j hj;exact List.mem_flatMap.2 ⟨r, List.mem_of_mem_head? h, hj⟩
 ·cases h
theorem kJ {T : Tab} {st : St} (hi : ∀ t, ∀ j ∈ (st.s t).ids, (st.m j).isSome = true) (hw : ∀ id o, st.m id = some o → ∀ j ∈ o.ids, (st.m j).isSome = true) {x : ResultVar} {r : A} (h : ay T st x = some r) : ∀ j ∈ r.ids, (st.m j).isSome = true := by
 cases x with
 | tmp t => cases h; exact hi t
 | cell p ty =>
   simp only [ay] at h;split at h
   ·split at h
    ·rename_i ty' cells hj;intro j hj';obtain ⟨x, hx1, hx2⟩ := List.mem_flatMap.1 (XQ h j hj');exact hw _ _ hj j (List.mem_flatMap.2 ⟨x, List.mem_of_mem_drop hx1, hx2⟩)
    ·cases h
   ·cases h
theorem Qq {T : Tab} {st : St} (hi : ∀ t, ∀ j ∈ (st.s t).ids, (st.m j).isSome = true) (hw : ∀ id o, st.m id = some o → ∀ j ∈ o.ids, (st.m j).isSome = true) {l : List ResultVar} {r : A} (h : resE T st l = some r) : ∀ j ∈ r.ids, (st.m j).isSome = true := by
 unfold resE at h;split at h
 ·exact kJ hi hw h
 ·cases h; intro j hj; simp [A.ids] at hj
 ·split at h
  ·rename_i a b hx hy;split at h
   ·rename_i p q hp hq;cases h
    intro j hj;simp [A.ids] at hj;rcases hj with hj | hj
    ·exact kJ hi hw hx j (iU hp j hj)
    ·exact kJ hi hw hy j (iU hq j hj)
   ·cases h
  ·cases h
 ·split at h
  ·rename_i a b c hx hy hz;split at h
   ·rename_i p q s hp hq hs;cases h
    intro j hj;simp [A.ids] at hj;rcases hj with hj | hj | hj
    ·exact kJ hi hw hx j (iU hp j hj)
    ·exact kJ hi hw hy j (iU hq j hj)
    ·exact kJ hi hw hz j (iU hs j hj)
   ·cases h
  ·cases h
 ·cases h
theorem oM {args : List A} (h : ∀ a ∈ args, ∀ l, a ≠ .defs l) : dfs (entry args DID) = [] := by
 unfold entry;rw [List.getD_eq_getElem?_getD];cases hx : args[DID]? with
 | none => rfl
 | some a =>
   have := h a (List.mem_of_getElem? hx);cases a <;> first | rfl | exact absurd rfl (this _)
theorem lQ {B : Nat → Value} {w : World} {I : Nat → Nat → Prop} : ∀ {args : List A} {vals : List Value}, RVl B w I args vals → vals.length = args.length
 | [], [], _ => rfl
 | _ :: _, _ :: _, h => by simp [lQ h.2]
theorem OQ {P : Go.Program} {T : Tab} (hT : T.Ok P) {f : FuncId} {fn : Func} {c : Code} {l : List ResultVar} {args : List A} {M : Mem} {D : List Nat} {r : A} {M' : Mem} (hf : P.funcs[f]? = some fn) (hb : fn.body = some c) (hl : fn.results.toList = l) (hle : args.length ≤ fn.ntmps) (hnd : fn.ntmps ≤ DID) (hids : ∀ a ∈ args, ∀ j ∈ a.ids, (M j).isSome = true) (hdf : ∀ a ∈ args, ∀ l, a ≠ .defs l)
 (hen : ∀ args w, (callFunc f args).run P w = .ok (.enter f args) w) (hr : ∀ j ∈ r.ids, (M' j).isSome = true) (hsub : ∀ j, (M j).isSome = true → (M' j).isSome = true) (hwm : WFm M → WFm M')
 (hW : ∀ R : Ref, R.keep = (fun j => (M j).isSome = true ∧ j ∉ D) → W P R fn.ntmps [] ⟨entry args, M⟩ c (fun e st => (e = .normal ∨ e = .ret) ∧ dfs (st.s DID) = [] ∧ ∃ τ r0, resE T st l = some r0 ∧ LeT τ R.keep ⟨upd (fun _ => .top) 0 r0, st.m⟩ ⟨upd (fun _ => .top) 0 r, M'⟩)) : dJ P f args M D r M' := by
 refine ⟨hen, hr, hsub, hwm, fun w0 I0 B I w vals hm hv => ?_⟩
 have hlen := lQ hv
 refine calls_of_wp hf hb ?_
 have hdd : dfs (entry args DID) = [] := oM hdf
 have h0 : SR ⟨w0, I0, w, I, B, fun j => (M j).isSome = true ∧ j ∉ D⟩ fn.ntmps [] ⟨entry args, M⟩ { tmps := vals.toArray ++ Array.replicate (fn.ntmps - vals.toArray.size) undef, defers := [] } w := by
  refine ⟨⟨B, I, hm, Ext.refl _ _, fun _ _ => rfl, oG hv⟩, fun t j hj => ?_, by simp [hlen]; omega, hnd, by rw [show dfs ((⟨entry args, M⟩ : St).s DID) = [] from hdd]; rfl, fun j hj => hj.1⟩;simp only [entry, List.getD_eq_getElem?_getD] at hj;cases hx : args[t]? with
  | none => rw [hx] at hj; simp [A.ids] at hj
  | some a => rw [hx] at hj; exact hids a (List.mem_of_getElem? hx) j hj
 refine wp_mono (hW _ rfl _ w h0) ?_
 rintro e a' w' ⟨st', ⟨he, hdn, τ, r0, hres, hle2⟩, ⟨⟨B', I', hm', hx', hkp', hs'⟩, hids', -, -, hds, hkept⟩⟩
 rw [hdn] at hds
 obtain ⟨v, h1, h2⟩ := zO hT hm' hs' hl hres
 -- the result as a frame of its own
 have hr1 : SR ⟨w0, I0, w, I, B, fun j => (M j).isSome = true ∧ j ∉ D⟩ 1 [] ⟨upd (fun _ => .top) 0 r0, st'.m⟩ { tmps := #[v], defers := [] } w' := by
  have other : ∀ {t : Nat}, t ≠ 0 → (⟨upd (fun _ => A.top) 0 r0, st'.m⟩ : St).s t = A.top := fun {t} e => by
   show upd (fun _ => A.top) 0 r0 t = A.top;exact upd_ne (fun _ => A.top) r0 e
  refine ⟨⟨B', I', hm', hx', hkp', fun t => ?_⟩, fun t j hj => ?_, rfl, by decide, by show [] = dfs (upd (fun _ => A.top) 0 r0 DID) ++ []; rw [upd_ne _ _ (by decide)]; rfl, hkept⟩
  ·by_cases e : t = 0
   ·subst e; exact h2
   ·rw [other e]; trivial
  ·by_cases e : t = 0
   ·subst e; exact Qq hids' hm'.live hres j hj
   ·rw [other e] at hj;simp [A.ids] at hj
 have hr2' := hr1.leT hle2
 obtain ⟨⟨B2, I2, hm3, hx3, hkp3, hs3⟩, -⟩ := hr2'
 have h5 : RV B2 w' I2 r v := hs3 0
 have hpost : a'.defers = [] ∧ ∃ v, (results fn a'.tmps).run P w' = .ok v w' ∧ ∃ v' B' I', Ending.returned v = .returned v' ∧ MR w0 I0 B' I' M' w' ∧ Ext w w' I I' ∧ (∀ j, (M j).isSome = true → j ∉ D → B' j = B j) ∧ RV B' w' I' r v' :=
  ⟨hds, v, h1, v, B2, I2, rfl, hm3, hx3, fun j hj hd => hkp3 j ⟨hj, hd⟩, h5⟩
 rcases he with rfl | rfl
 ·exact hpost
 ·exact hpost
theorem KV {P : Go.Program} {T : Tab} (hT : T.Ok P) {f : FuncId} {fn : Func} {c : Code} {l : List ResultVar} {args : List A} {r : A} (hf : P.funcs[f]? = some fn) (hb : fn.body = some c) (hl : fn.results.toList = l) (hd : ∀ a ∈ args, a.ids = []) (hdf : ∀ a ∈ args, ∀ l, a ≠ .defs l) (hle : args.length ≤ fn.ntmps) (hnd : fn.ntmps ≤ DID)
 (hW : ∀ R : Ref, R.keep = (fun _ => False) → W P R fn.ntmps [] ⟨entry args, Mem.nil⟩ c (fun e st => (e = .normal ∨ e = .ret) ∧ dfs (st.s DID) = [] ∧ aU T st l = some r)) (m : Mem) : rW P f args m r := by
 refine rW.RB ?_
 intro w0 I0 B I w vals hm hv
 have hlen := lQ hv
 refine calls_of_wp hf hb ?_
 have h0 : SR ⟨w, I, w, I, B, fun _ => False⟩ fn.ntmps [] ⟨entry args, Mem.nil⟩ { tmps := vals.toArray ++ Array.replicate (fn.ntmps - vals.toArray.size) undef, defers := [] } w := by
  refine ⟨⟨B, I, ⟨Below.refl _ _, hm.zA, fun _ _ h => h, fun _ _ h => .inl h, hm.there, fun _ _ h => absurd h (bV _), fun _ _ h => absurd h (bV _), fun _ _ _ _ h => absurd h (bV _), fun _ _ h => absurd h (bV _)⟩, Ext.refl _ _, fun _ _ => rfl, oG hv⟩, fun t j hj => ?_, by simp [hlen]; omega, hnd, by rw [show dfs ((⟨entry args, Mem.nil⟩ : St).s DID) = [] from oM (fun a ha l e => by subst e; exact hdf _ ha l rfl)]; rfl, fun j hj => hj.elim⟩;simp only [entry, List.getD_eq_getElem?_getD] at hj;cases hx : args[t]? with
  | none => rw [hx] at hj; simp [A.ids] at hj
  | some a => rw [hx] at hj; simp [hd a (List.mem_of_getElem? hx)] at hj
 refine wp_mono (hW _ rfl _ w h0) ?_
 rintro e a' w' ⟨st', ⟨he, hdn, hres⟩, ⟨⟨B', I', hm', hx', -, hs'⟩, -, -, -, hds, -⟩⟩
 rw [hdn] at hds
 obtain ⟨v, h1, h2, h3⟩ := uZ hT hm' hs' hl hres
 have hpost : a'.defers = [] ∧ ∃ v, (results fn a'.tmps).run P w' = .ok v w' ∧ ∃ v' I', Ending.returned v = .returned v' ∧ Below w.heap.size w w' ∧ (∀ b o, I b o → I' b o) ∧ (∀ b o, I' b o → I b o ∨ (w.heap.size ≤ b ∧ b < w'.heap.size)) ∧ RV B w' I' r v' :=
  ⟨hds, v, h1, v, I', rfl, hm'.below, hm'.base, fun b o h => (hm'.old b o h).imp id fun k => ⟨k, hm'.there b o h⟩, h2.mono (Ext.refl _ _) fun j hj => by rw [h3] at hj; simp at hj⟩
 rcases he with rfl | rfl
 ·exact hpost
 ·exact hpost
theorem fK {α β : Type} [BEq α] [LawfulBEq α] {t : α} {x : β} : ∀ {l : List (α × β)}, l.lookup t = some x → (t, x) ∈ l
 | [], h => by simp at h
 | (u, y) :: l, h => by
   rw [List.lookup_cons] at h;by_cases e : t == u
   ·rw [e] at h;cases h
    rw [eq_of_beq e];simp
   ·simp only [Bool.not_eq_true] at e;rw [e] at h;exact List.mem_cons_of_mem _ (fK h)
structure Lists where
 ty : List (Nat × Nat × Bool)
 zero : List (Nat × List Value)
 elem : List (Nat × Nat × Nat)
 off : List ((Nat × Nat) × Nat × Nat × Bool)
 bool : List Nat
 fields : List (Nat × List (Nat × Nat))
 bytes : List (Nat × Nat)
 nilk : List (Nat × Nat)
 int : List (Nat × IntKind)
 map : List (Nat × Nat × Nat)
 str : List Nat
 one : List (Nat × Value)
 seq : List (Nat × List (Nat × Nat))
 eff : List Nat
def Lists.tab (L : Lists) : Tab where
 ty t := L.ty.lookup t
 zero t := L.zero.lookup t
 elem t := L.elem.lookup t
 off t f := L.off.lookup (t, f)
 bool t := L.bool.contains t
 fields t := L.fields.lookup t
 bytes t := L.bytes.lookup t
 nilk t := L.nilk.lookup t
 int t := L.int.lookup t
 map t := L.map.lookup t
 str t := L.str.contains t
 one t := L.one.lookup t
 seq t := L.seq.lookup t
 eff f := L.eff.contains f
def Uk (P : Go.Program) (e : Nat × Nat × Bool) : Bool :=
 decide (0 < e.2.1) && (match P.info? e.1 with | some i => i.size == e.2.1 | none => false) && (match P.underlying e.1 with | some d => TypeDesc.many d == e.2.2 | none => false) && (e.2.2 || e.2.1 == 1)
def J7 (P : Go.Program) (e : Nat × Nat × Nat) : Bool :=
 decide (0 < e.2.2) && (match P.underlying e.1 with | some (.slice u) => u == e.2.1 | _ => false) && (match P.info? e.2.1 with | some i => i.size == e.2.2 | none => false)
def MU (P : Go.Program) (L : Lists) (e : (Nat × Nat) × Nat × Nat × Bool) : Bool :=
 match P.underlying e.1.1 with
 | some (.struct fs) => match fs[e.1.2]? with
   | some fd => fd.offset == e.2.1 && L.ty.lookup fd.type == some (e.2.2.1, e.2.2.2)
   | none => false
 | _ => false
def Ka (P : Go.Program) (t : Nat) : Bool := match P.underlying t with | some .bool => true | _ => false
def M9 (P : Go.Program) (t : Nat) : Bool := match P.underlying t with | some .string => true | _ => false
def Dc (P : Go.Program) (e : Nat × List (Nat × Nat)) : Bool := match P.underlying e.1 with
 | some (.struct fs) => (fs.toList.map fun f => (P.info? f.type).map fun i => (f.offset, i.size)) == e.2.map some
 | _ => false
def EL (P : Go.Program) (e : Nat × Nat) : Bool := match P.info? e.1 with | some i => i.bytes == e.2 | none => false
def OW (P : Go.Program) (e : Nat × Nat) : Bool := match P.underlying e.1 with | some d => Em d == some e.2 | none => false
def Oy (P : Go.Program) (e : Nat × IntKind) : Bool := match P.underlying e.1 with | some (.int k) => decide (k = e.2) | _ => false
def Ol (P : Go.Program) (e : Nat × Nat × Nat) : Bool := match P.underlying e.1 with | some (.map k v) => k == e.2.1 && v == e.2.2 | _ => false
def Jb (P : Go.Program) : List (Nat × List Value) → Prop
 | [] => True
 | (t, vs) :: l => (((P.info? t).bind (·.zero)).map (·.cells) = some vs.toArray ∧ vs.all (·.oneCell') = true) ∧ Jb P l
def Qf (P : Go.Program) : List (Nat × Value) → Prop
 | [] => True
 | (t, v) :: l => ((P.info? t).bind (·.zero) = some v ∧ v.oneCell' = true) ∧ Qf P l
def Qi (P : Go.Program) (e : Nat × List (Nat × Nat)) : Bool :=
 !P.stoodInHeld e.1 && !P.eqGuardType P.depth e.1 && (match P.underlying e.1 with | some (.struct fs) => (fs.toList.map (fun f => (f.name == "_", f.type, f.offset))) == (e.2.map fun p => (false, p.1, p.2)) | _ => false) &&
  e.2.all fun p => match P.underlying p.1 with | some d => Vj d | none => false
theorem Lists.ok {P : Go.Program} {L : Lists} (h1 : L.ty.all (Uk P) = true) (h2 : Jb P L.zero) (h3 : L.elem.all (J7 P) = true) (h4 : L.off.all (MU P L) = true) (h5 : L.bool.all (Ka P) = true) (h6 : L.fields.all (Dc P) = true) (h7 : L.bytes.all (EL P) = true) (h8 : L.nilk.all (OW P) = true) (h9 : L.int.all (Oy P) = true) (h10 : L.map.all (Ol P) = true) (h11 : L.str.all (M9 P) = true) (h12 : Qf P L.one) (h13 : L.seq.all (Qi P) = true) : L.tab.Ok P := by
 refine ⟨fun t n g h => ?_, fun t vs h => ?_, fun t e n h => ?_, fun t f o n g h => ?_, fun t h => ?_, fun t l h => ?_, fun t b h => ?_, fun t k h => ?_, fun t k h => ?_, fun t k e h => ?_, fun t h => ?_, fun t v h => ?_, fun t l h => ?_⟩
 ·have := List.all_eq_true.1 h1 _ (fK h);simp only [Uk, Bool.and_eq_true, decide_eq_true_eq] at this;obtain ⟨⟨⟨k1, k2⟩, k3⟩, k4⟩ := this;split at k2
  ·rename_i i hi;split at k3
   ·rename_i d hd;exact ⟨k1, ⟨i, hi, eq_of_beq k2⟩, d, hd, eq_of_beq k3, fun e => by subst e; simpa using k4⟩
   ·cases k3
  ·cases k2
 ·have hm := fK h;have : ∀ {l : List (Nat × List Value)}, Jb P l → (t, vs) ∈ l → ((P.info? t).bind (·.zero)).map (·.cells) = some vs.toArray ∧ vs.all (·.oneCell') = true := by
   intro l;induction l with
   | nil => intro _ h; simp at h
   | cons p l ih =>
     exact Wy
  obtain ⟨k1, k2⟩ := this h2 hm;cases hi : P.info? t with
  | none => rw [hi] at k1; cases k1
  | some i =>
    rw [hi] at k1;simp only [Option.bind_some] at k1;cases hz : i.zero with
    | none => rw [hz] at k1; cases k1
    | some z =>
      rw [hz] at k1;exact ⟨i, z, rfl, hz, by simpa using k1, fun v hv => List.all_eq_true.1 k2 v hv⟩
 ·have := List.all_eq_true.1 h3 _ (fK h);simp only [J7, Bool.and_eq_true, decide_eq_true_eq] at this;obtain ⟨⟨k1, k2⟩, k3⟩ := this;split at k2
  ·rename_i u hu;split at k3
   ·rename_i i hi;exact ⟨by rw [hu, eq_of_beq k2], k1, i, hi, eq_of_beq k3⟩
   ·cases k3
  ·cases k2
 ·have := List.all_eq_true.1 h4 _ (fK h);simp only [MU] at this;split at this
  ·rename_i fs hfs;split at this
   ·rename_i fd hfd;simp only [Bool.and_eq_true] at this;exact ⟨fs, fd, hfs, hfd, eq_of_beq this.1, eq_of_beq this.2⟩
   ·cases this
  ·cases this
 ·have hm : t ∈ L.bool := by simpa [Lists.tab] using h
  have := List.all_eq_true.1 h5 t hm;unfold Ka at this;split at this
  ·assumption
  ·cases this
 ·have := List.all_eq_true.1 h6 _ (fK h);simp only [Dc] at this;split at this
  ·rename_i fs hfs;exact ⟨fs, hfs, eq_of_beq this⟩
  ·cases this
 ·have := List.all_eq_true.1 h7 _ (fK h);simp only [EL] at this;split at this
  ·rename_i i hi; exact ⟨i, hi, eq_of_beq this⟩
  ·cases this
 ·have := List.all_eq_true.1 h8 _ (fK h);simp only [OW] at this;split at this
  ·rename_i d hd; exact ⟨d, hd, eq_of_beq this⟩
  ·cases this
 ·have := List.all_eq_true.1 h9 _ (fK h);simp only [Oy] at this;split at this
  ·rename_i d hd; rw [hd, of_decide_eq_true this]
  ·cases this
 ·have := List.all_eq_true.1 h10 _ (fK h);simp only [Ol] at this;split at this
  ·rename_i d e' hd;rw [Bool.and_eq_true] at this;rw [hd, eq_of_beq this.1, eq_of_beq this.2]
  ·cases this
 ·have hm : t ∈ L.str := by simpa [Lists.tab] using h
  have := List.all_eq_true.1 h11 t hm;unfold M9 at this;split at this
  ·assumption
  ·cases this
 ·have hm := fK h;have : ∀ {l : List (Nat × Value)}, Qf P l → (t, v) ∈ l → (P.info? t).bind (·.zero) = some v ∧ v.oneCell' = true := by
   intro l;induction l with
   | nil => intro _ h; simp at h
   | cons p l ih =>
     exact Wy
  obtain ⟨k1, k2⟩ := this h12 hm;cases hi : P.info? t with
  | none => rw [hi] at k1; cases k1
  | some i => rw [hi] at k1; exact ⟨i, rfl, k1, k2⟩
 ·have := List.all_eq_true.1 h13 _ (fK h);simp only [Qi, Bool.and_eq_true, Bool.not_eq_true'] at this;obtain ⟨⟨⟨k1, k2⟩, k3⟩, k4⟩ := this;refine ⟨k1, k2, ?_, fun p hp => ?_⟩
  ·split at k3
   ·rename_i fs hfs;exact ⟨fs, hfs, eq_of_beq k3⟩
   ·cases k3
  ·have := List.all_eq_true.1 k4 p hp;split at this
   ·rename_i d hd;exact ⟨d, hd, this⟩
   ·cases this
end V
end Go.Proofs.YtgaipdillmleeaaGreat
end
