/- Joined by my own program, in build order: Ly, Li, Dt, Sh, Nxj, Ex, Sb, Dn, Sx, Ct7, Pl7, La7, Ec, LawEa7. -/
import Derived.Test.YthhpcjoaogmhbaaGreatDoorG32
import Derived.Test.YthhpcjoaogmhbaaGreatDoorG30
import Derived.Test.YthhpcjoaogmhbaaGreatDoorG9
import Derived.Test.YthhpcjoaogmhbaaGreatDoorG31
import Derived.Test.YthhpcjoaogmhbaaGreatDoorG10
import Derived.Test.YthhpcjoaogmhbaaGreatDoorG4
import Derived.Lib.ItoaLen
import Derived.Lib.AppendIntMem
import Derived.Shelf.RegionOpenPlain
import Derived.Lib.Strings
import Derived.Lib.Walk
import Derived.Test.YthhpcjoaogmhbaaGreatDoorCards
import Derived.Test.YthhpcjoaogmhbaaGreatDoorTie
set_option linter.unusedVariables false
set_option linter.unusedSimpArgs false
section
namespace Go.Proofs.YthhpcjoaogmhbaaGreatDoor
namespace V
open Go.RowKit
def fq (l : List ByteArray) : List UInt8 := l.flatMap fun s => s.data.toList
theorem Jv (l : List ByteArray) (s : ByteArray) : fq (l ++ [s]) = fq l ++ s.data.toList := by simp [fq]
theorem Qa (l : List ByteArray) (k : Nat) : (fq (l.take k)).length ≤ (fq l).length := by
 have : fq l = fq (l.take k) ++ fq (l.drop k) := by unfold fq; rw [← List.flatMap_append, List.take_append_drop]
 rw [this, List.length_append]; omega
def rZ (u : Bool) (l : List ByteArray) : Bool := u || !l.isEmpty
theorem KQ (u : Bool) {l : List ByteArray} {k : Nat} {s : ByteArray} (h : l[k]? = some s) : rZ u (l.take (k + 1)) = true := by
 rw [List.take_add_one, h]; simp [rZ]
set_option maxHeartbeats 1000000 in
theorem Qv {M : Mem} {j q : Nat} {u : Bool} {t : Int} {bs : List UInt8} (h : PgAt M j q u t bs) (l : List ByteArray) (hl : l.length ≤ 1000000000) (hs : bs.length + (fq l).length ≤ 140737488355328) {c : Code} (hc : (Tryz.f66).body = some c) (hWF : WFm M) (Rr : Ref) (hkeep : Rr.keep = (fun i => (M i).isSome = true ∧ i ∉ [q])) :
 W Tryz.prog Rr (Tryz.f66).ntmps [] ⟨entry [.ptr j 0, .c (.sl (l.map cStr))], M⟩ c (fun e st => (e = .normal ∨ e = .ret) ∧ dfs (st.s DID) = [] ∧ resE tab st (Tryz.f66).results.toList = some (.tup []) ∧ MLe st.m (pgM M j q (rZ u l) t (bs ++ fq l))) := by
 obtain rfl : _ = c := Option.some.inj hc
 have hjs : (M j).isSome = true := by rw [h.box]; rfl
 have nkq : ¬ Rr.keep q := by rw [hkeep]; intro hh; exact hh.2 (by simp)
 have kept : ∀ i, Rr.keep i → (M i).isSome = true := fun i hi => by rw [hkeep] at hi; exact hi.1
 refine W.go ?_
 refine W.loop (ι := Nat) (fun k => ⟨upd (upd (upd (upd (fun _ => .top) 0 (.ptr j 0)) 6 (.c (.sl (l.map cStr)))) 7 (.c (.int .i64 l.length))) 8 (.c (.int .i64 k)), pgM M j q (rZ u (l.take k)) t (bs ++ fq (l.take k))⟩) (fun k => k ≤ l.length) (fun k => l.length - k) 0 ?start (Nat.zero_le _) ?round
 case start =>
  refine dh ?sle ?mle ?swf ?mwf (fun i hi => iI i (kept i hi)) (by rfl)
  case swf => repeat (first | exact aT _ | refine aU ?_ Lc)
  case mwf => exact nJ h hWF
  case mle =>
   have e : pgM M j q (rZ u (l.take 0)) t (bs ++ fq (l.take 0)) = M := by
    have : rZ u (l.take 0) = u := by simp [rZ]
    rw [this]; simp only [List.take_zero, fq, List.flatMap_nil, List.append_nil]; exact Ba h
   exact mD e.symm
  case sle => repeat (first | exact aQ _ | exact aK _ | refine aP ?_ Px)
 case round =>
  intro k hk
  refine W.go ?_
  refine W.cond rfl ?_ ?_
  ·intro hlt
   replace hlt := dtl hlt
   obtain ⟨s, hx⟩ : ∃ s, l[k]? = some s := ⟨_, List.getElem?_eq_getElem hlt⟩
   have htk : fq (l.take (k + 1)) = fq (l.take k) ++ s.data.toList := by rw [List.take_add_one, hx]; exact Jv _ _
   have hle := Qa l (k + 1)
   rw [htk, List.length_append] at hle
   have hsz : s.data.toList.length = s.size := by rw [Array.length_toList]; rfl
   have hw := Ki (h.pgM (u' := rZ u (l.take k)) (t' := t) (bs' := bs ++ fq (l.take k))) s (by rw [List.length_append]; omega)
   rw [mq h.ne, List.append_assoc, ← htk] at hw
   have hu := KQ u hx
   repeat (first | refine W.q ?_ | refine W.g ?_ Tn)
   refine W.bl ?_
   refine W.ak ah 0 (by decide) ?_
   refine xs0 4 ?_
   refine aJ (D := [q]) rfl rfl rfl rfl rfl (fun i hi => by simp at hi; subst hi; exact nkq) (by simp) cw2 hw ?_
   simp only [bQ, dw]
   refine xe0 ?_
   refine W.go ?_
   refine ⟨k + 1, hlt, by omega, ?_⟩
   rw [hu]
   refine dh ?sle ?mle ?swf ?mwf (fun i hi => iI i (kept i hi)) (by rfl)
   case swf => repeat (first | exact aT _ | refine aU ?_ Lc)
   case mwf => exact nJ h hWF
   case mle => exact aC _
   case sle => repeat (first | exact aQ _ | exact aK _ | refine aP ?_ RF)
  ·intro hge
   replace hge := dnl hge
   obtain rfl : k = l.length := by omega
   rw [List.take_length]
   refine W.go ?_
   exact ⟨.inl rfl, by rfl, by rfl, aC _⟩
theorem GX {M : Mem} {j q : Nat} {u : Bool} {t : Int} {bs : List UInt8} (h : PgAt M j q u t bs) (l : List ByteArray) (hl : l.length ≤ 1000000000) (hs : bs.length + (fq l).length ≤ 140737488355328) :
 gU Tryz.prog 66 [.ptr j 0, .c (.sl (l.map cStr))] M [q] (.tup []) (pgM M j q (rZ u l) t (bs ++ fq l)) := by
 have hjs : (M j).isSome = true := by rw [h.box]; rfl
 refine (oZ ah [q] Tryz.func66 (by kernel_rfl) rfl rfl (by rfl) (by rfl) ?ids ?res iI (nJ h) (fun hWF Rr hkeep => Qv h l hl hs rfl hWF Rr hkeep))
 case ids => intro a ha i hi; simp at ha; rcases ha with rfl | rfl <;> simp [A.ids] at hi; subst hi; exact hjs
 case res => intro i hi; simp [A.ids] at hi
theorem Rz {M : Mem} {j q : Nat} {u : Bool} {t : Int} {bs : List UInt8} (h : PgAt M j q u t bs) (l : List ByteArray) (hl : l.length ≤ 1000000000) (hs : bs.length + (fq l).length ≤ 140737488355328) :
 Dl Tryz.prog 66 [.ptr j 0, .c (.sl (l.map cStr))] M [q] (pgM M j q (rZ u l) t (bs ++ fq l)) := by
 have hjs : (M j).isSome = true := by rw [h.box]; rfl
 refine (N9 ah [q] Tryz.func66 (by kernel_rfl) rfl rfl (by rfl) (by rfl) ?ids iI (nJ h) (fun hWF Rr hkeep => Qv h l hl hs rfl hWF Rr hkeep))
 case ids => intro a ha i hi; simp at ha; rcases ha with rfl | rfl <;> simp [A.ids] at hi; subst hi; exact hjs
def zu (x : Expr) : Prop := ∀ (M : Mem) (j q : Nat) (u : Bool) (t : Int) (bs : List UInt8) (b : Nat) (want : Int), PgAt M j q u t bs → (∀ d, M (b + d) = none) → bs.length + (bR x want).length ≤ 140737488355328 →
 gU Tryz.prog 31 [.ptr j 0, .agg (cExpr x), .c (.int .i64 want)] M [q] (.tup []) (pgM M j q true t (bs ++ bR x want))
theorem PgAt.new {M : Mem} {j q i : Nat} {u : Bool} {t : Int} {bs : List UInt8} {o : O} (h : PgAt M j q u t bs) (hi : M i = none) (ho : O.kill q o = o) : PgAt (upd M i (some o)) j q u t bs := by
 have hj : j ≠ i := fun e => by have := h.box; rw [e, hi] at this; cases this
 have hq : q ≠ i := fun e => by have := h.row; rw [e, hi] at this; cases this
 refine ⟨by rw [upd_ne _ _ hj]; exact h.box, by rw [upd_ne _ _ hq]; exact h.row, h.ne, fun k o' hk hkj => ?_⟩
 by_cases e : k = i
 ·subst e; rw [upd_same] at hk; cases hk; exact ho
 ·rw [upd_ne _ _ e] at hk; exact h.only k o' hk hkj
theorem uN {M : Mem} {j q i : Nat} {u : Bool} {t : Int} {bs : List UInt8} {o : Option O} (hj : j ≠ i) (hq : q ≠ i) : pgM (upd M i o) j q u t bs = upd (pgM M j q u t bs) i o := by
 funext k
 unfold pgM upd
 by_cases e1 : k = q
 ·subst e1; simp [hq]
 ·by_cases e2 : k = j
  ·subst e2; simp [hj, e1]
  ·simp [e1, e2]
theorem jw {M : Mem} {j q i : Nat} {u u' : Bool} {t t' : Int} {bs bs' : List UInt8} (h : PgAt M j q u t bs) (hi : M i = none) : pgM M j q u' t' bs' i = none := by
 have hj : i ≠ j := fun e => by have := h.box; rw [← e, hi] at this; cases this
 have hq : i ≠ q := fun e => by have := h.row; rw [← e, hi] at this; cases this
 unfold pgM
 rw [upd_ne _ _ hq, upd_ne _ _ hj, hi]
theorem yP {m : Mem} {i : Nat} {o : O} (hi : m i = none) : MLe (upd m i (some o)) m := fun k => by
 by_cases e : k = i
 ·subst e; exact .inl hi
 ·exact .inr (upd_ne _ _ e).symm
theorem Li {m a b : Mem} (e : b = a) (h : MLe m a) : MLe m b := e ▸ h
set_option maxHeartbeats 2000000 in
theorem Oe {M : Mem} {j q b : Nat} {u : Bool} {t : Int} {bs : List UInt8} (h : PgAt M j q u t bs) (hM : ∀ d, M (b + d) = none) (l : List Expr) (hx : ∀ x ∈ l, zu x) (e : ByteArray) (hl : l.length ≤ 1000000000) (hs : bs.length + (jQ l).length + e.size ≤ 140737488355328) :
 gU Tryz.prog 68 [.ptr j 0, .c (.sl (l.map cExpr)), .c (.str e)] M [q] (.tup []) (pgM M j q true t (bs ++ jQ l ++ e.data.toList)) := by
 have hjs : (M j).isSome = true := by rw [h.box]; rfl
 have hqs : (M q).isSome = true := by rw [h.row]; rfl
 have bj : ∀ d, j ≠ b + d := fun d k => by have := hM d; rw [← k] at this; rw [this] at hjs; cases hjs
 have bq : ∀ d, q ≠ b + d := fun d k => by have := hM d; rw [← k] at this; rw [this] at hqs; cases hqs
 refine (oZ ah [q] Tryz.func68 (by kernel_rfl) rfl rfl (by rfl) (by rfl) ?ids ?res ?sub ?wfm (fun hWF Rr hkeep => ?_))
 case ids => intro a ha i hi; simp at ha; rcases ha with rfl | rfl | rfl <;> simp [A.ids] at hi; subst hi; exact hjs
 case res => intro i hi; simp [A.ids] at hi
 case sub => exact iI
 case wfm => exact nJ h
 have nkq : ¬ Rr.keep q := by rw [hkeep]; intro hh; exact hh.2 (by simp)
 have kept : ∀ i, Rr.keep i → (M i).isSome = true := fun i hi => by rw [hkeep] at hi; exact hi.1
 have jq : (j = q) = False := eq_false h.ne
 repeat (first | refine W.q ?_ | refine W.region ah b (by decide) xr0 ?_)
 refine W.loop (ι := Nat) (fun k => ⟨upd (upd (upd (upd (upd (fun _ => .top) 0 (.ptr j 0)) 2 (.c (.str e))) 8 (.c (.sl (l.map cExpr)))) 9 (.c (.int .i64 l.length))) 10 (.c (.int .i64 k)), pgM M j q (u || decide (0 < k)) t (bs ++ fU ((l.map (bR · 1)).take k))⟩) (fun k => k ≤ l.length) (fun k => l.length - k) 0 ?start (Nat.zero_le _) ?round
 case start =>
  refine dh ?sle ?mle ?swf ?mwf (fun i hi => iI i (kept i hi)) (by rfl)
  case swf => repeat (first | exact aT _ | refine aU ?_ Lc)
  case mwf => exact nJ h hWF
  case mle =>
   have e : pgM M j q (u || decide (0 < 0)) t (bs ++ fU ((l.map (bR · 1)).take 0)) = M := by
    simp only [Nat.lt_irrefl, decide_false, Bool.or_false, List.take_zero, fU, List.append_nil]; exact Ba h
   exact mD e.symm
  case sle => repeat (first | exact aQ _ | exact aK _ | refine aP ?_ Px)
 case round =>
  intro k hk
  repeat (first | refine W.q ?_ | refine W.region ah b (by decide) xr0 ?_)
  refine W.cond rfl ?_ ?_
  ·intro hlt
   replace hlt := dtl hlt
   obtain ⟨x, hxk⟩ : ∃ x, l[k]? = some x := ⟨_, List.getElem?_eq_getElem hlt⟩
   have htk := EC hxk
   have hle := CX (l.map (bR · 1)) (k + 1)
   have hlE : (jQ l).length = (fU (l.map (bR · 1))).length := rfl
   have hlen := congrArg List.length htk
   simp only [List.length_append] at hlen
   have b7 := hM 7
   obtain ⟨u1, hu1⟩ : ∃ u1, u1 = (u || decide (0 < k)) := ⟨_, rfl⟩
   obtain ⟨b1, hb1⟩ : ∃ b1, b1 = bs ++ fU ((l.map (bR · 1)).take k) := ⟨_, rfl⟩
   have hlb : b1.length = bs.length + (fU ((l.map (bR · 1)).take k)).length := by rw [hb1, List.length_append]
   rw [← hu1, ← hb1]
   obtain ⟨xk, xn, xm, xs⟩ := x
   have hf7 : pgM M j q u1 t b1 (b + 7) = none := jw h b7
   have hp1 : PgAt (pgM M j q u1 t b1) j q u1 t b1 := h.pgM
   have b7j : (b + 7 = j) = False := eq_false (Ne.symm (bj 7))
   have b7q : (b + 7 = q) = False := eq_false (Ne.symm (bq 7))
   have jb7 : (j = b + 7) = False := eq_false (bj 7)
   repeat (first | refine W.q ?_ | refine W.region ah b (by decide) (aG (by simp only [exb, simprocAttr, cZ hxk, cExpr, hf7]; rfl)) ?_)
   simp only [iO]
   refine W.cond rfl ?_ ?_
   ·intro hk0
    simp only [decide_eq_true_eq] at hk0
    have hk0 : k ≠ 0 := by omega
    rw [if_neg hk0] at htk hlen
    simp only [List.length_cons, List.length_nil] at hlen
    have hl := GX (hp1.new hf7 (o := .box 29 [.c (.int .i64 xk), .c (.int .i64 xn), .c (.str xm), .c (.sl (fB xs))]) rfl) [⟨#[44, 32]⟩] (by decide) MV
    rw [uN (bj 7) (bq 7), mq h.ne, show rZ u1 [(⟨#[44, 32]⟩ : ByteArray)] = true by simp [rZ]] at hl
    obtain ⟨b2, hb2⟩ : ∃ b2, b2 = b1 ++ fq [(⟨#[44, 32]⟩ : ByteArray)] := ⟨_, rfl⟩
    rw [← hb2] at hl
    have hb2' : b2 = b1 ++ [44, 32] := by rw [hb2]; rfl
    refine W.bl ?_
    refine W.ak ah b (by decide) ?_
    refine xs0 2 ?_
    refine aJ (D := [q]) rfl rfl rfl rfl rfl (fun i hi => by simp at hi; subst hi; exact nkq) (by simp) cw2 hl ?_
    simp only [bQ, dw]
    refine xe0 ?_
    have hw := hx _ (List.mem_of_getElem? hxk) (upd (pgM M j q true t b2) (b + 7) (some (.box 29 [.c (.int .i64 xk), .c (.int .i64 xn), .c (.str xm), .c (.sl (fB xs))]))) j q true t b2 (b + 8) 1 (h.pgM.new (jw h b7) rfl) (fun d => by rw [upd_ne _ _ (by omega), Nat.add_assoc]; exact jw h (hM _)) (by rw [hb2', List.length_append]; simp only [List.length_cons, List.length_nil]; omega)
    rw [uN (bj 7) (bq 7), mq h.ne] at hw
    refine W.bl ?_
    refine W.ak ah b (by decide) ?_
    refine aj 2 SK ?_
    refine aJ (D := [q]) rfl rfl rfl rfl rfl (fun i hi => by simp at hi; subst hi; exact nkq) (by simp) cw3 hw ?_
    simp only [bQ, dw]
    refine xe0 ?_
    repeat (first | refine W.q ?_ | refine W.region ah b (by decide) (aG Tg) ?_)
    refine ⟨k + 1, hlt, by omega, ?_⟩
    rw [show (u || decide (0 < k + 1)) = true by simp]
    refine dh ?sle ?mle ?swf ?mwf (fun i hi => iI i (kept i hi)) (by rfl)
    case swf => repeat (first | exact aT _ | refine aU ?_ Lc)
    case mwf => exact nJ h hWF
    case mle => exact Li (congrArg (pgM M j q true t) (by rw [htk, hb2', hb1]; simp [List.append_assoc])) (yP (jw h b7))
    case sle => repeat (first | exact aQ _ | exact aK _ | refine aP ?_ RF)
   ·intro hk0
    simp only [decide_eq_false_iff_not] at hk0
    have hk0 : k = 0 := by omega
    rw [if_pos hk0] at htk hlen
    simp only [List.length_nil] at hlen
    refine W.bl ?_
    have hw := hx _ (List.mem_of_getElem? hxk) (upd (pgM M j q u1 t b1) (b + 7) (some (.box 29 [.c (.int .i64 xk), .c (.int .i64 xn), .c (.str xm), .c (.sl (fB xs))]))) j q u1 t b1 (b + 8) 1 (h.pgM.new (jw h b7) rfl) (fun d => by rw [upd_ne _ _ (by omega), Nat.add_assoc]; exact jw h (hM _)) (by omega)
    rw [uN (bj 7) (bq 7), mq h.ne] at hw
    refine W.bl ?_
    refine W.ak ah b (by decide) ?_
    refine aj 2 SK ?_
    refine aJ (D := [q]) rfl rfl rfl rfl rfl (fun i hi => by simp at hi; subst hi; exact nkq) (by simp) cw3 hw ?_
    simp only [bQ, dw]
    refine xe0 ?_
    repeat (first | refine W.q ?_ | refine W.region ah b (by decide) (aG Tg) ?_)
    refine ⟨k + 1, hlt, by omega, ?_⟩
    rw [show (u || decide (0 < k + 1)) = true by simp]
    refine dh ?sle ?mle ?swf ?mwf (fun i hi => iI i (kept i hi)) (by rfl)
    case swf => repeat (first | exact aT _ | refine aU ?_ Lc)
    case mwf => exact nJ h hWF
    case mle => exact Li (congrArg (pgM M j q true t) (by rw [htk, hb1]; simp [List.append_assoc])) (yP (jw h b7))
    case sle => repeat (first | exact aQ _ | exact aK _ | refine aP ?_ RF)
  ·intro hge
   replace hge := dnl hge
   obtain rfl : k = l.length := by omega
   rw [List.take_of_length_le (by simp)]
   repeat (first | refine W.q ?_ | refine W.region ah b (by decide) xr0 ?_)
   refine W.bl ?_
   refine W.ak ah b (by decide) ?_
   have hw := GX (h.pgM (u' := (u || decide (0 < l.length))) (t' := t) (bs' := bs ++ fU (l.map (bR · 1)))) [e] (by simp) (by simp [fq]; simp [jQ] at hs; omega)
   rw [show rZ (u || decide (0 < l.length)) [e] = true by simp [rZ], mq h.ne] at hw
   refine xs0 3 ?_
   refine aJ (D := [q]) rfl rfl rfl rfl rfl (fun i hi => by simp at hi; subst hi; exact nkq) (by simp) cw2 hw ?_
   simp only [bQ, dw]
   refine xe0 ?_
   refine ⟨by simp, by rfl, by rfl, mD ?_⟩
   simp [fq, jQ, List.append_assoc]
section
variable {P : Go.Program} {T : Tab} {base : Nat} {ops : Array Oper} (hT : T.Ok P) {R : Ref} {n : Nat} {ds : List Deferred}
include hT
theorem chain_snd (hd : ∀ o ∈ ops, ∀ d, o.dst = some d → d < n) {Q : Exit → Act → World → Prop} {st1 : St} {l2 : List Nat} (hQ : ∀ a w, SR R n ds st1 a w → wpOps P ops Q l2 a w) :
 ∀ (l : List Nat) (st : St) (a : Act) (w : World), Chain P T R.keep base ops l st st1 → SR R n ds st a w → wpOps P ops Q (l ++ l2) a w
 | [], st, a, w, h, hr => by
   cases h
   exact hQ a w hr
 | j :: l, st, a, w, h, hr => by
   cases h with
   | @cons _ o' _ _ st1' _ hi h1 t =>
     rw [List.cons_append, wpOps_cons]
     unfold wpOp
     rw [hi]
     have hgo := h1.snd hT hr (hd o' (Array.mem_of_getElem? hi)) (K := wpOps P ops Q (l ++ l2)) (Q := Q) (fun a' w' hr' => chain_snd hd hQ l st1' a' w' t hr')
     dsimp only
     split
     ·rename_i hw; rw [if_pos hw] at hgo; exact .inl hgo
     ·rename_i hw; rw [if_neg hw] at hgo; exact hgo
def dfr (s : Nat → A) (g : FuncId) (v1 v2 : Value) (j : Nat) (z : C) : Nat → A :=
 upd (upd (upd s DID (.defs ({ target := .fn (.func g) #[], args := #[v1, v2] } :: dfs (s DID)))) (DID + 1) (.pinP v1 j 0)) (DID + 2) (.pinC v2 z)
omit hT in
theorem I7 {s : Nat → A} {g : FuncId} {v1 v2 : Value} {j : Nat} {z : C} : dfr s g v1 v2 j z DID = .defs ({ target := .fn (.func g) #[], args := #[v1, v2] } :: dfs (s DID)) := by
 unfold dfr
 rw [upd_ne _ _ (by decide), upd_ne _ _ (by decide), upd_same]
theorem W.Nn {st st1 : St} {K : Exit → St → Prop} {id : Nat} {l1 : List Oper} {o : Oper} {c : Call} {g : FuncId} {x y : Operand} {j : Nat} {z : C} (base : Nat) (hd : jM n ops = true) (hops : ops.toList = l1 ++ [o]) (h1 : exec T base ops l1 st = some st1) (hw : fE ops o st1.s = some true) (hop : o.op = .defer c) (hc : c.callee = .value (.func g)) (ha : c.args = #[x, y]) (hdst : o.dst = none)
 (hx : ev st1.s x = .ptr j 0) (hj : (st1.m j).isSome = true) (hy : ev st1.s y = .c z) (h : ∀ v1 v2, K .normal ⟨dfr st1.s g v1 v2 j z, st1.m⟩) : W P R n ds st (.region id ops false) K := fun a w hr => by
 refine wp_region ?_
 have hsz : ops.size = l1.length + 1 := by rw [← Array.length_toList, hops]; simp
 have hrg : List.range ops.size = List.range' 0 l1.length ++ [l1.length] := by rw [hsz, List.range_succ, List.range_eq_range']
 have hi : ops[l1.length]? = some o := by rw [← Array.getElem?_toList, hops]; simp
 rw [hrg]
 refine chain_snd hT (base := base) (gB hd) ?_ _ st a w (pK (k := 0) (fun k x hx => ?_) (aG h1)) hr
 ·clear hr a w
  intro a w hr
  obtain ⟨B, I, hm, hx0, hkp, hs⟩ := hr.ex
  rw [wpOps_cons]
  unfold wpOp
  have hwt := fP hs hw
  rw [hi]
  dsimp only
  rw [if_pos hwt]
  refine .inl ?_
  unfold Oper.wp Oper.upon
  have hrun : (execOp a.eval o).run P w = .ok (.defer { target := .fn (.func g) #[], args := #[a.eval x, a.eval y] }) w := by
   simp only [execOp, hop, resolve, hc, ha, Act.eval, Deferred.ofValue, Sem.run_bind, Sem.run_pure, Result.andThen_ok]
   simp [Act.eval]
  rw [hrun]
  have hv := iK hs x
  rw [hx] at hv
  obtain ⟨b, hB, hv⟩ := hv
  have hv2 := iK hs y
  rw [hy] at hv2
  have hput : ({ a with defers := { target := .fn (.func g) #[], args := #[a.eval x, a.eval y] } :: a.defers } : Act).put o.dst undef = { a with defers := { target := .fn (.func g) #[], args := #[a.eval x, a.eval y] } :: a.defers } := by rw [hdst]; rfl
  show wpOps P ops _ [] _ _
  rw [hput]
  refine ⟨_, h (a.eval x) (a.eval y), ⟨B, I, hm, hx0, hkp, fun t => ?_⟩, fun t i hi => ?_, hr.size, hr.nn, ?_, hr.kept⟩
  ·show RV B w I (dfr st1.s g (a.eval x) (a.eval y) j z t) (a.tmps.getD t undef)
   unfold dfr
   by_cases e3 : t = DID + 2
   ·subst e3; rw [upd_same]; exact hv2
   rw [upd_ne _ _ e3]
   by_cases e : t = DID + 1
   ·subst e; rw [upd_same]; exact ⟨b, hB, hv⟩
   ·rw [upd_ne _ _ e]
    by_cases e2 : t = DID
    ·subst e2; rw [upd_same]; trivial
    ·rw [upd_ne _ _ e2]; exact hs t
  ·have hi : i ∈ (dfr st1.s g (a.eval x) (a.eval y) j z t).ids := hi
   unfold dfr at hi
   by_cases e3 : t = DID + 2
   ·subst e3; rw [upd_same] at hi; simp [A.ids] at hi
   rw [upd_ne _ _ e3] at hi
   by_cases e : t = DID + 1
   ·subst e
    rw [upd_same] at hi
    simp [A.ids] at hi; subst hi
    exact hj
   ·rw [upd_ne _ _ e] at hi
    by_cases e2 : t = DID
    ·subst e2; rw [upd_same] at hi; simp [A.ids] at hi
    ·rw [upd_ne _ _ e2] at hi; exact hr.ids t i hi
  ·show _ :: a.defers = dfs (dfr st1.s g (a.eval x) (a.eval y) j z DID) ++ ds
   rw [I7, hr.defs]; rfl
 ·rw [Nat.zero_add, ← Array.getElem?_toList, hops, List.getElem?_append_left (List.getElem?_eq_some_iff.1 hx).1]
  exact hx
theorem W.PI {st st1 : St} {K : Exit → St → Prop} {id : Nat} {o : Oper} {c : Call} {g : FuncId} {x y : Operand} {j : Nat} {z : C} (base i : Nat) (hd : jM n ops = true) (hsz : ops.size = i + 1) (ho : ops[i]? = some o) (h1 : exec T base ops (ops.toList.take i) st = some st1) (hw : fE ops o st1.s = some true) (hop : o.op = .defer c) (hc : c.callee = .value (.func g)) (ha : c.args = #[x, y]) (hdst : o.dst = none)
 (hx : ev st1.s x = .ptr j 0) (hj : (st1.m j).isSome = true) (hy : ev st1.s y = .c z) (h : ∀ v1 v2, K .normal ⟨dfr st1.s g v1 v2 j z, st1.m⟩) : W P R n ds st (.region id ops false) K := by
 refine W.Nn hT base hd (l1 := ops.toList.take i) (o := o) ?_ h1 hw hop hc ha hdst hx hj hy h
 have hl : ops.toList.length = i + 1 := by rw [Array.length_toList]; exact hsz
 have h2 : ops.toList.drop i = [o] := by
  rw [← Array.getElem?_toList] at ho
  obtain ⟨hj, rfl⟩ := List.getElem?_eq_some_iff.1 ho
  rw [List.drop_eq_getElem_cons hj, List.drop_eq_nil_of_le (by omega)]
 rw [← h2, List.take_append_drop]
omit hT in
theorem GZ {s : Nat → A} {g : FuncId} {v1 v2 : Value} {j : Nat} {z : C} {i : Nat} (h : i < DID) : dfr s g v1 v2 j z i = s i := by
 unfold dfr
 rw [upd_ne _ _ (Nat.ne_of_lt (Nat.lt_succ_of_lt (Nat.lt_succ_of_lt h))), upd_ne _ _ (Nat.ne_of_lt (Nat.lt_succ_of_lt h)), upd_ne _ _ (Nat.ne_of_lt h)]
omit hT in
theorem SG {s : Nat → A} {g : FuncId} {v1 v2 : Value} {j : Nat} {z : C} : dfr s g v1 v2 j z (DID + 1) = .pinP v1 j 0 := by
 unfold dfr
 rw [upd_ne _ _ (by decide), upd_same]
omit hT in
theorem Ta {s : Nat → A} {g : FuncId} {v1 v2 : Value} {j : Nat} {z : C} : dfr s g v1 v2 j z (DID + 2) = .pinC v2 z := by
 unfold dfr
 rw [upd_same]
end
theorem Od {P : Go.Program} {T : Tab} (hT : T.Ok P) {f : FuncId} {fn : Func} {c : Code} {args : List A} {M : Mem} (D : List Nat) {M' : Mem} {g : FuncId} {j : Nat} {z : C} (hinv : ∀ (v1 v2 : Value) (w : World), (invoke (.fn (.func g) #[]) #[v1, v2]).run P w = .ok (.enter g #[v1, v2]) w) (hf : P.funcs[f]? = some fn) (hn : (fn.name == "runtime.NumGoroutine") = false) (hb : fn.body = some c) (hl : fn.results.toList = [])
 (hle : decide (args.length ≤ fn.ntmps ∧ fn.ntmps ≤ DID) = true) (hdf : args.all (fun a => !(match a with | .defs _ => true | _ => false)) = true) (hids : ∀ a ∈ args, ∀ j ∈ a.ids, (M j).isSome = true) (hsub : ∀ j, (M j).isSome = true → (M' j).isSome = true) (hwm : WFm M → WFm M')
 (hW : WFm M → ∀ R : Ref, R.keep = (fun j => (M j).isSome = true ∧ j ∉ D) → W P R fn.ntmps [] ⟨entry args, M⟩ c (fun e st => (e = .normal ∨ e = .ret) ∧
   ((dfs (st.s DID) = [] ∧ MLe st.m M') ∨
    ∃ v1 v2 M1, dfs (st.s DID) = [{ target := .fn (.func g) #[], args := #[v1, v2] }] ∧ st.s (DID + 1) = .pinP v1 j 0 ∧ st.s (DID + 2) = .pinC v2 z ∧ MLe st.m M1 ∧ WFm M1 ∧ (∀ i, (M i).isSome = true → (M1 i).isSome = true) ∧ Dl P g [.ptr j 0, .c z] M1 D M'))) : gU P f args M D (.tup []) M' := by
 refine ⟨enters_of hf hn hb, fun j hj => by simp [A.ids] at hj, hsub, hwm, ?_⟩
 intro w0 I0 B I w vals hm hv
 have hWF : WFm M := hm.live
 have hd2 : ∀ a ∈ args, ∀ l, a ≠ .defs l := fun a ha l e => by have := List.all_eq_true.1 hdf a ha; subst e; simp at this
 obtain ⟨hl1, hl2⟩ := of_decide_eq_true hle
 have hlen := lZ hv
 refine calls_of_wp_defers hf hb ?_
 have h0 : SR ⟨w0, I0, w, I, B, fun j => (M j).isSome = true ∧ j ∉ D⟩ fn.ntmps [] ⟨entry args, M⟩ { tmps := vals.toArray ++ Array.replicate (fn.ntmps - vals.toArray.size) undef, defers := [] } w := by
  refine ⟨⟨B, I, hm, Ext.refl _ _, fun _ _ => rfl, j4 hv⟩, fun t i hi => ?_, by simp [hlen]; omega, hl2, by rw [show dfs ((⟨entry args, M⟩ : St).s DID) = [] from j6 (fun a ha l e => by subst e; exact hd2 _ ha l rfl)]; rfl, fun i hi => hi.1⟩
  simp only [entry, List.getD_eq_getElem?_getD] at hi
  cases hx : args[t]? with
  | none => rw [hx] at hi; simp [A.ids] at hi
  | some a => rw [hx] at hi; exact hids a (List.mem_of_getElem? hx) i hi
 refine wp_mono (hW hWF _ rfl _ w h0) ?_
 rintro e a' w' ⟨st', ⟨he, hres⟩, ⟨⟨B', I', hm', hx', hkp', hs'⟩, -, -, -, hds, -⟩⟩
 have hand : ∀ (w2 : World) (B2 : Nat → Value) (I2 : Nat → Nat → Prop), MR w0 I0 B2 I2 M' w2 → Ext w w2 I I2 → (∀ j, (M j).isSome = true → j ∉ D → B2 j = B j) →
  ∃ v, (results fn a'.tmps).run P w2 = .ok v w2 ∧ ∃ v' B' I', Ending.returned v = .returned v' ∧ MR w0 I0 B' I' M' w2 ∧ Ext w w2 I I' ∧ (∀ j, (M j).isSome = true → j ∉ D → B' j = B j) ∧ RV B' w2 I' (.tup []) v' := by
  intro w2 B2 I2 hm2 hx2 hk2
  obtain ⟨v, h1, h2⟩ := zB (st := ⟨fun _ => .top, M'⟩) (r := .tup []) hT hm2 (fun t => by trivial) hl rfl
  exact ⟨v, h1, v, B2, I2, rfl, hm2, hx2, hk2, h2⟩
 rcases hres with ⟨hdn, hle2⟩ | ⟨v1, v2, M1, hdn, hp1, hp2, hle2, hw1, hsub1, -, hsm, hwm1, hcall⟩
 ·rw [hdn] at hds
  have hds : a'.defers = [] := hds
  have key := hand w' B' I' (H9 hm' hle2 (hwm hWF)) hx' (fun j hj hd => hkp' j ⟨hj, hd⟩)
  rcases he with rfl | rfl <;> (show Leaves _ _ _ _ _ _ _; rw [hds]; exact key)
 ·rw [hdn] at hds
  have hds : a'.defers = [{ target := .fn (.func g) #[], args := #[v1, v2] }] := hds
  have hm1 := H9 hm' hle2 hw1
  have q1 := hs' (DID + 1)
  rw [hp1] at q1
  obtain ⟨b0, k1, k2⟩ := q1
  have q2 := hs' (DID + 2)
  rw [hp2] at q2
  have key2 : Leaves P fn a'.tmps (fun e w' => ∃ v B' I', e = .returned v ∧ MR w0 I0 B' I' M' w' ∧ Ext w w' I I' ∧ (∀ j, (M j).isSome = true → j ∉ D → B' j = B j) ∧ RV B' w' I' (.tup []) v) a'.defers .returning w' := by
   rw [hds]
   refine leaves_cons (by simp) (hinv v1 v2 w') (CallsD.mono (hcall w0 I0 B' I' w' [v1, v2] .returning hm1 ⟨⟨b0, k1, k2⟩, q2, trivial⟩) ?_)
   rintro e u' w'' ⟨rfl, v, B2, I2, rfl, hm2, hx2, hk2⟩
   exact hand w'' B2 I2 hm2 (hx'.trans hx2) (fun j hj hd => (hk2 j (hsub1 j hj) hd).trans (hkp' j ⟨hj, hd⟩))
  rcases he with rfl | rfl <;> exact key2
def xD (s : Shape) : List C := [.int .i64 s.least, .int .i64 s.most, .bool s.name, .int .i64 s.num, .int .i64 s.level, .str s.sign]
theorem yw {p : Shape → Prop} (h0 : p kZ) (h : ∀ s ∈ shapes, p s) (k : Int) : p (shapeOf k).1 := by
 unfold shapeOf
 split
 ·dsimp only
  rw [List.getD_eq_getElem?_getD]
  cases hx : shapes[(k - 1).toNat]? with
  | none => exact h0
  | some s => exact h s (List.mem_of_getElem? hx)
 ·exact h0
theorem M9 (k : Int) : (Lit.int .i64 (shapeOf k).1.least).wf = true ∧ (Lit.int .i64 (shapeOf k).1.most).wf = true ∧ (Lit.int .i64 (shapeOf k).1.num).wf = true ∧ (Lit.int .i64 (shapeOf k).1.level).wf = true ∧ (shapeOf k).1.sign.size ≤ 4 := by
 refine yw (p := fun s => (Lit.int .i64 s.least).wf = true ∧ (Lit.int .i64 s.most).wf = true ∧ (Lit.int .i64 s.num).wf = true ∧ (Lit.int .i64 s.level).wf = true ∧ s.sign.size ≤ 4) (by decide) (fun s hs => ?_) k
 revert s
 decide
theorem Sc (k : Int) (m : Mem) : COk Tryz.prog 63 [.c (.int .i64 k)] m (.tup [(true, xD (shapeOf k).1), (false, [.bool (shapeOf k).2])]) := by
 refine ⟨enters_of Tryz.func63 (by kernel_rfl) rfl, rfl, fun m' _ => ?_⟩
 intro w0 I0 B I w vals hm hv
 match vals, hv with
 | [v], ⟨h1, _⟩ =>
   cases h1
   refine (Lm k w).mono ?_
   rintro e w' ⟨rfl, hb⟩
   obtain ⟨s1, s2, s3, s4, s5⟩ := M9 k
   refine ⟨_, I, rfl, hb, fun _ _ k => k, fun _ _ k => .inl k, ?_⟩
   exact ⟨_, rfl, ⟨_, rfl, .int s1, .int s2, .bool, .int s3, .int s4, .str (Nat.le_trans s5 (by decide)), trivial⟩, ⟨_, rfl, .bool⟩, trivial⟩
theorem O5 (x : Expr) (m : Mem) : COk Tryz.prog 30 [.agg (cExpr x)] m (.c (.bool (cK x))) := by
 refine ⟨enters_of Tryz.func30 (by kernel_rfl) rfl, rfl, fun m' _ => ?_⟩
 intro w0 I0 B I w vals hm hv
 match vals, hv with
 | [v], ⟨h1, _⟩ =>
   obtain ⟨us, rfl, h1⟩ := h1
   refine (Fx (sN x) w us x hm.pO.max (A8 (fun b o k => hm.there b o k) _ (Nat.le_refl _) h1)).mono ?_
   rintro e w' ⟨rfl, hb⟩
   exact ⟨_, I, rfl, hb, fun _ _ k => k, fun _ _ k => .inl k, .bool⟩
theorem RB (n : Int) (m : Mem) : COk Tryz.prog 115 [.c (.int .i64 n), .c (.int .i64 10)] m (.c (.str ⟨(Lib.itoa n).toArray⟩)) := by
 refine ⟨enters_of Tryz.func115 (by kernel_rfl) rfl, rfl, fun m' _ => ?_⟩
 intro w0 I0 B I w vals hm hv
 match vals, hv with
 | [v, v2], ⟨h1, h2, _⟩ =>
   cases h1 with
   | int hn =>
   cases h2
   obtain ⟨q1, q2⟩ := Ie.1 hn
   have q1 : -9223372036854775808 ≤ n := q1
   have q2 : n ≤ 9223372036854775807 := q2
   have q3 := Lib.itoa_length_le n q1 q2
   refine (Tryz.internal_strconv_FormatInt_10 n q1 q2 w hm.pO.tens).mono ?_
   rintro e w' ⟨rfl, k, os, rfl⟩
   exact ⟨_, I, rfl, Lib.below_grow _ _ (Nat.le_refl _) _ _, fun _ _ k => k, fun _ _ k => .inl k, .str (Nat.le_trans (show (Lib.itoa n).toArray.size ≤ 21 by simpa using q3) (by decide))⟩
theorem Pn (n : Int) (m : Mem) : COk Tryz.prog 98 [.c (.int .i64 n), .c (.int .i64 10)] m (.c (.str ⟨(Lib.itoa n).toArray⟩)) := by
 refine (cB ah Tryz.func98 (by kernel_rfl) rfl rfl (by rfl) (by rfl) (by rfl) (fun R hkeep => ?_) m)
 refine W.go ?_
 refine W.ak ah 0 (by decide) ?_
 refine xs0 2 ?_
 refine au rfl rfl rfl rfl rfl (by simp) cw2 (RB n _) ?_
 refine xe0 ?_
 refine W.go ?_
 refine W.rt ?_;simp only [Tryz.f98, bE, aD, toT, fin, exb, simprocAttr]
theorem Ms (n : Int) (m : Mem) : COk Tryz.prog 67 [.c (.int .i64 n)] m (.c (.str ⟨(Lib.itoa n).toArray⟩)) := by
 refine (cB ah Tryz.func67 (by kernel_rfl) rfl rfl (by rfl) (by rfl) (by rfl) (fun R hkeep => ?_) m)
 refine W.go ?_
 refine W.ak ah 0 (by decide) ?_
 refine xs0 1 ?_
 refine au rfl rfl rfl rfl rfl (by simp) cw2 (Pn n _) ?_
 refine xe0 ?_
 refine W.go ?_
 refine W.rt ?_;simp only [Tryz.f67, bE, aD, toT, fin, exb, simprocAttr]
theorem W.Oy {P : Go.Program} {R : Ref} {n : Nat} {ds : List Deferred} {st : St} {x y : Code} {K : Exit → St → Prop} {ι : Type} (mk : ι → St) (Q : ι → Prop)
 (h : W P R n ds st x (fun e st' => e = .normal ∧ ∀ c K', (∀ i, Q i → W P R n ds (mk i) c K') → W P R n ds st' c K')) (k : ∀ i, Q i → W P R n ds (mk i) y K) : W P R n ds st (.seq x y) K := by
 refine W.seq ?_
 refine W.mono h ?_
 rintro e st' ⟨rfl, h2⟩
 exact h2 y K k
section
variable {M1 : Mem} {j q : Nat} {u0 : Bool} {t : Int} {bs0 : List UInt8}
theorem Ii {u : Bool} {l : List ByteArray} (h : l ≠ []) : rZ u l = true := by
 cases l with
 | nil => exact absurd rfl h
 | cons a l => simp [rZ]
theorem pF (h : PgAt M1 j q u0 t bs0) (u : Bool) (bs : List UInt8) (l : List ByteArray) (hl : l ≠ []) (hl2 : l.length ≤ 3) (hs : bs.length + (fq l).length ≤ 140737488355328) :
 gU Tryz.prog 66 [.ptr j 0, .c (.sl (l.map cStr))] (pgM M1 j q u t bs) [q] (.tup []) (pgM M1 j q true t (bs ++ fq l)) := by
 have := GX (h.pgM (u' := u) (t' := t) (bs' := bs)) l (by omega) hs
 rwa [mq h.ne, Ii hl] at this
theorem lX (h : PgAt M1 j q u0 t bs0) {b : Nat} (hM : ∀ d, M1 (b + d) = none) {x : Expr} (hx : zu x) (u : Bool) (bs : List UInt8) (want : Int) (hs : bs.length + (bR x want).length ≤ 140737488355328) :
 gU Tryz.prog 31 [.ptr j 0, .agg (cExpr x), .c (.int .i64 want)] (pgM M1 j q u t bs) [q] (.tup []) (pgM M1 j q true t (bs ++ bR x want)) := by
 have := hx _ j q u t bs b want h.pgM (fun d => jw h (hM d)) hs
 rwa [mq h.ne] at this
theorem IQ (h : PgAt M1 j q u0 t bs0) {b : Nat} (hM : ∀ d, M1 (b + d) = none) {l : List Expr} (hx : ∀ x ∈ l, zu x) (hl : l.length ≤ 1000000000) (u : Bool) (bs : List UInt8) (e : ByteArray) (hs : bs.length + (jQ l).length + e.size ≤ 140737488355328) :
 gU Tryz.prog 68 [.ptr j 0, .c (.sl (fB l)), .c (.str e)] (pgM M1 j q u t bs) [q] (.tup []) (pgM M1 j q true t (bs ++ jQ l ++ e.data.toList)) := by
 rw [eZ]
 have := Oe (h.pgM (u' := u) (t' := t) (bs' := bs)) (fun d => jw h (hM d)) l hx e hl hs
 rwa [mq h.ne] at this
def Keeps (j : Nat) (s s' : Nat → A) : Prop := dfs (s' DID) = dfs (s DID) ∧ (∀ v, s (DID + 1) = .pinP v j 0 → s' (DID + 1) = .pinP v j 0) ∧ ∀ v z, s (DID + 2) = .pinC v z → s' (DID + 2) = .pinC v z
theorem dP (s : Nat → A) : Keeps j s s := ⟨rfl, fun _ h => h, fun _ _ h => h⟩
theorem eB {s s' : Nat → A} {i : Nat} {a : A} (hi : i < DID) (h : Keeps j s s') : Keeps j s (upd s' i a) := by
 obtain ⟨h1, h2, h3⟩ := h
 refine ⟨?_, fun v hv => ?_, fun v z hv => ?_⟩
 ·rw [upd_ne _ _ (Nat.ne_of_gt hi)]; exact h1
 ·rw [upd_ne _ _ (Nat.ne_of_gt (Nat.lt_succ_of_lt hi))]; exact h2 v hv
 ·rw [upd_ne _ _ (Nat.ne_of_gt (Nat.lt_succ_of_lt (Nat.lt_succ_of_lt hi)))]; exact h3 v z hv
theorem dQ {s s' : Nat → A} (hne : j ≠ q) (h : Keeps j s s') : Keeps j s (gD q s') := by
 obtain ⟨h1, h2, h3⟩ := h
 refine ⟨(rP [q] s').trans h1, fun v hv => ?_, fun v z hv => ?_⟩
 ·rw [aM, h2 v hv]; simp [A.kill, hne]
 ·rw [aM, h3 v z hv]; rfl
end
theorem Lg : ∀ (l : List Expr), ∀ x ∈ fB l, x.length = 4
 | [], x, h => by simp [fB] at h
 | y :: l, x, h => by
   simp only [fB, List.mem_cons] at h
   rcases h with rfl | h
   ·cases y; rfl
   ·exact Lg l x h
theorem TF {kids : List Expr} (h1 : (1 : Int) ≤ (kids.length : Int)) (h2 : (kids.length : Int) ≤ 5) : ∃ y r, kids = y :: r ∧ r.length ≤ 100 := by
 match kids, h1 with
 | y :: r, _ => exact ⟨y, r, rfl, by simp at h2; omega⟩
theorem len1 {kids : List Expr} (h1 : (1 : Int) ≤ (kids.length : Int)) (h2 : (kids.length : Int) ≤ 1) : ∃ y, kids = [y] := by
 match kids, (by omega : kids.length = 1) with
 | [y], _ => exact ⟨y, rfl⟩
theorem Ac {kids : List Expr} (h1 : (2 : Int) ≤ (kids.length : Int)) (h2 : (kids.length : Int) ≤ 2) : ∃ y y2, kids = [y, y2] := by
 match kids, (by omega : kids.length = 2) with
 | [y, y2], _ => exact ⟨y, y2, rfl⟩
theorem uL (x : Expr) (want : Int) : bR x want = if tT x.kind < want then 40 :: (dZ x ++ [41]) else dZ x := rfl
set_option maxHeartbeats 4000000 in
theorem Oi : ∀ (z : Nat) (x : Expr), SizeOf.sizeOf x ≤ z → cK x = true → zu x := by
 intro z
 induction z using Nat.strongRecOn with
 | ind z ih =>
 intro x hz hx M j q u t bs b want h hM hs
 obtain ⟨k, n, nm, kids⟩ := x
 rw [vY] at hx
 obtain ⟨htop, hkids⟩ := Bool.and_eq_true_iff.1 hx
 have hE : ∀ y ∈ kids, zu y := fun y hy => ih (SizeOf.sizeOf y) (by
  have h1 := List.sizeOf_lt_of_mem hy
  have h2 := Expr.mk.sizeOf_spec k n nm kids
  omega) y (Nat.le_refl _) (List.all_eq_true.1 hkids y hy)
 rw [kU] at htop
 simp only [Bool.and_eq_true, decide_eq_true_eq] at htop
 obtain ⟨⟨⟨⟨⟨hkk, hlo⟩, hhi⟩, hn0⟩, hn1⟩, hnm⟩ := htop
 have hkr : 1 ≤ k ∧ k ≤ 18 := by
  by_cases hk : 1 ≤ k ∧ k ≤ 18
  ·exact hk
  ·unfold shapeOf at hkk; rw [if_neg hk] at hkk; cases hkk
 have hjs : (M j).isSome = true := by rw [h.box]; rfl
 have hqs : (M q).isSome = true := by rw [h.row]; rfl
 have bj : ∀ d, j ≠ b + d := fun d k => by have := hM d; rw [← k] at this; rw [this] at hjs; cases hjs
 have bq : ∀ d, q ≠ b + d := fun d k => by have := hM d; rw [← k] at this; rw [this] at hqs; cases hqs
 have hpM : ∀ {l : List ByteArray}, l ≠ [] → True := fun _ => trivial
 refine (Od ah [q] (j := j) (g := 66) (z := .sl [[.str ⟨#[41]⟩]]) (fun v1 v2 w => by simp [invoke]) Tryz.func31 (by kernel_rfl) rfl rfl (by rfl) (by rfl) ?ids iI (nJ h) (fun hWF Rr hkeep => ?_))
 case ids => intro a ha i hi; simp at ha; rcases ha with rfl | rfl | rfl <;> simp [A.ids] at hi; subst hi; exact hjs
 have nkq : ¬ Rr.keep q := by rw [hkeep]; intro hh; exact hh.2 (by simp)
 have jq : (j = q) = False := eq_false h.ne
 have b4q : (b + 4 = q) = False := eq_false (Ne.symm (bq 4))
 have b6q : (b + 6 = q) = False := eq_false (Ne.symm (bq 6))
 have hM4 := hM 4
 have hM6 := hM 6
 repeat (first | refine W.q ?_ | refine W.region ah b (by decide) (aG (by simp only [exb, simprocAttr, cExpr, hM4]; rfl)) ?_)
 refine W.bl ?_
 refine W.ak ah b (by decide) ?_
 refine aj 2 (by simp only [exb, simprocAttr, upd_same, cExpr]; rfl) ?_
 refine au rfl rfl rfl rfl rfl (by simp) cw1 (Sc k _) ?_
 refine aA (by simp only [exb, simprocAttr, hM6, xD, upd_same, Nat.add_left_cancel_iff]; rfl) ?_
 simp only [iO]
 obtain ⟨M1, hM1⟩ : ∃ M1, M1 = upd (upd M (b + 4) (some (.box 29 [.c (.int .i64 k), .c (.int .i64 n), .c (.str nm), .c (.sl (fB kids))]))) (b + 6) (some (.box 104 [.c (.int .i64 (shapeOf k).1.least), .c (.int .i64 (shapeOf k).1.most), .c (.bool (shapeOf k).1.name), .c (.int .i64 (shapeOf k).1.num), .c (.int .i64 (shapeOf k).1.level), .c (.str (shapeOf k).1.sign)])) := ⟨_, rfl⟩
 rw [← hM1]
 have m4 : M1 (b + 4) = some (.box 29 [.c (.int .i64 k), .c (.int .i64 n), .c (.str nm), .c (.sl (fB kids))]) := by rw [hM1, upd_ne _ _ (by omega), upd_same]
 have m6 : M1 (b + 6) = some (.box 104 [.c (.int .i64 (shapeOf k).1.least), .c (.int .i64 (shapeOf k).1.most), .c (.bool (shapeOf k).1.name), .c (.int .i64 (shapeOf k).1.num), .c (.int .i64 (shapeOf k).1.level), .c (.str (shapeOf k).1.sign)]) := by rw [hM1, upd_same]
 have h1 : PgAt M1 j q u t bs := by
  rw [hM1]
  exact (h.new hM4 rfl).new (by rw [upd_ne _ _ (by omega)]; exact hM6) rfl
 have f1 : ∀ d, M1 (b + 7 + d) = none := fun d => by
  rw [hM1, upd_ne _ _ (by omega), upd_ne _ _ (by omega), Nat.add_assoc]; exact hM _
 have off : ∀ (u' : Bool) (bs' : List UInt8), MLe (pgM M1 j q u' t bs') (pgM M j q u' t bs') := fun u' bs' => by
  rw [hM1, uN (bj 6) (bq 6), uN (bj 4) (bq 4)]
  intro i
  rcases yP (m := pgM M j q u' t bs') (o := .box 29 [.c (.int .i64 k), .c (.int .i64 n), .c (.str nm), .c (.sl (fB kids))]) (jw h hM4) i with e | e
  ·exact .inl e
  rcases yP (m := upd (pgM M j q u' t bs') (b + 4) (some (.box 29 [.c (.int .i64 k), .c (.int .i64 n), .c (.str nm), .c (.sl (fB kids))]))) (o := .box 104 [.c (.int .i64 (shapeOf k).1.least), .c (.int .i64 (shapeOf k).1.most), .c (.bool (shapeOf k).1.name), .c (.int .i64 (shapeOf k).1.num), .c (.int .i64 (shapeOf k).1.level), .c (.str (shapeOf k).1.sign)]) (show upd (pgM M j q u' t bs') (b + 4) _ (b + 6) = none by rw [upd_ne _ _ (by omega)]; exact jw h hM6) i with e2 | e2
  ·exact .inl (e.trans e2)
  ·exact .inr (e.trans e2)
 have hm4 : ∀ u' bs', pgM M1 j q u' t bs' (b + 4) = some (.box 29 [.c (.int .i64 k), .c (.int .i64 n), .c (.str nm), .c (.sl (fB kids))]) := fun u' bs' => by
  unfold pgM; rw [upd_ne _ _ (Ne.symm (bq 4)), upd_ne _ _ (Ne.symm (bj 4)), m4]
 have hm6 : ∀ u' bs', pgM M1 j q u' t bs' (b + 6) = some (.box 104 [.c (.int .i64 (shapeOf k).1.least), .c (.int .i64 (shapeOf k).1.most), .c (.bool (shapeOf k).1.name), .c (.int .i64 (shapeOf k).1.num), .c (.int .i64 (shapeOf k).1.level), .c (.str (shapeOf k).1.sign)]) := fun u' bs' => by
  unfold pgM; rw [upd_ne _ _ (Ne.symm (bq 6)), upd_ne _ _ (Ne.symm (bj 6)), m6]
 have hsame : pgM M1 j q u t bs = M1 := Ba h1
 clear hM1
 have hll : (tT k < want) ∨ ¬ (tT k < want) := Classical.em _
 refine W.Oy (ι := (Nat → A) × Bool × List UInt8) (fun i => ⟨i.1, pgM M1 j q i.2.1 t i.2.2⟩)
  (fun i => i.1 0 = .ptr j 0 ∧ i.1 4 = .ptr (b + 4) 0 ∧ i.1 6 = .ptr (b + 6) 0 ∧ ((¬ tT k < want ∧ i.2.1 = u ∧ i.2.2 = bs ∧ dfs (i.1 DID) = []) ∨
    (tT k < want ∧ i.2.1 = true ∧ i.2.2 = bs ++ [40] ∧ ∃ v1 v2, dfs (i.1 DID) = [{ target := .fn (.func 66) #[], args := #[v1, v2] }] ∧ i.1 (DID + 1) = .pinP v1 j 0 ∧ i.1 (DID + 2) = .pinC v2 (.sl [[.str ⟨#[41]⟩]])))) ?first ?rest
 case first =>
  repeat (first | refine W.q ?_ | refine W.region ah b (by decide) (aG (by simp only [exb, simprocAttr, m6]; rfl)) ?_)
  refine W.cond rfl ?_ ?_
  ·intro hlt
   simp only [decide_eq_true_eq] at hlt
   have hlt' : tT k < want := hlt
   have hX := uL ⟨k, n, nm, kids⟩ want
   rw [if_pos hlt'] at hX
   have hlen := congrArg List.length hX
   simp only [List.length_cons, List.length_append, List.length_nil] at hlen
   have hl := pF h1 u bs [⟨#[40]⟩] (by simp) (by decide) MV
   rw [hsame] at hl
   refine W.bl ?_
   refine W.ak ah b (by decide) ?_
   refine xs0 2 ?_
   refine aJ (D := [q]) rfl rfl rfl rfl rfl (fun i hi => by simp at hi; subst hi; exact nkq) (by simp) cw2 hl ?_
   simp only [bQ, dw]
   refine xe0 ?_
   refine W.bl ?_
   refine W.PI ah b 2 (by decide) rfl rfl (by simp only [exb, simprocAttr, aM, A.kill, jq, if_false]; rfl) rfl rfl rfl rfl rfl (j := j) (z := .sl [[.str ⟨#[41]⟩]]) (by simp only [exb, simprocAttr, aM, A.kill, jq, if_false]) (by exact iI _ (by rw [h1.box]; rfl)) (by simp only [exb, simprocAttr]) ?_
   intro v1 v2
   refine ⟨rfl, fun c K' hk => ?_⟩
   generalize hd : dfr _ _ v1 v2 j _ = sd
   refine hk ⟨sd, true, bs ++ [40]⟩ ⟨?_, ?_, ?_, .inr ⟨hlt', rfl, rfl, v1, v2, ?_, ?_, ?_⟩⟩
   ·show sd _ = _; rw [← hd, GZ (by decide)]; simp only [av, aM, aN, A.kill, jq, if_false, Nat.reduceEqDiff, reduceIte]
   ·show sd _ = _; rw [← hd, GZ (by decide)]; simp only [av, aM, A.kill, jq, b4q, if_false, Nat.reduceEqDiff, reduceIte]
   ·show sd _ = _; rw [← hd, GZ (by decide)]; simp only [av, aM, A.kill, jq, b6q, if_false, Nat.reduceEqDiff, reduceIte]
   ·show dfs (sd _) = _; rw [← hd, I7]; rfl
   ·show sd _ = _; rw [← hd]; exact SG
   ·show sd _ = _; rw [← hd]; exact Ta
  ·intro hge
   simp only [decide_eq_false_iff_not] at hge
   have hge' : ¬ tT k < want := hge
   refine W.skip ?_
   refine ⟨rfl, fun c K' hk => ?_⟩
   rw [← hsame]
   exact hk ⟨_, u, bs⟩ ⟨rfl, rfl, rfl, .inl ⟨hge', rfl, rfl, by rfl⟩⟩
 case rest =>
  rintro ⟨s0, u', bs'⟩ ⟨h0, h4, h6, hQ⟩
  dsimp only at h0 h4 h6 hQ ⊢
  have hfit : bs'.length + (dZ ⟨k, n, nm, kids⟩).length ≤ 140737488355328 := by
   have hX := uL ⟨k, n, nm, kids⟩ want
   rcases hQ with ⟨hl, -, rfl, -⟩ | ⟨hl, -, rfl, -⟩
   ·rw [if_neg hl] at hX; rw [hX] at hs; exact hs
   ·rw [if_pos hl] at hX; rw [hX] at hs
    simp only [List.length_cons, List.length_append, List.length_nil] at hs ⊢; omega
  have fin : ∀ (s' : Nat → A) (Bf : List UInt8), Bf = bs' ++ dZ ⟨k, n, nm, kids⟩ → Keeps j s0 s' → ((Exit.normal = Exit.normal ∨ Exit.normal = Exit.ret) ∧
   ((dfs (s' DID) = [] ∧ MLe (pgM M1 j q true t Bf) (pgM M j q true t (bs ++ bR ⟨k, n, nm, kids⟩ want))) ∨
    ∃ v1 v2 M2, dfs (s' DID) = [{ target := .fn (.func 66) #[], args := #[v1, v2] }] ∧ s' (DID + 1) = .pinP v1 j 0 ∧ s' (DID + 2) = .pinC v2 (.sl [[.str ⟨#[41]⟩]]) ∧ MLe (pgM M1 j q true t Bf) M2 ∧ WFm M2 ∧ (∀ i, (M i).isSome = true → (M2 i).isSome = true) ∧ Dl Tryz.prog 66 [.ptr j 0, .c (.sl [[.str ⟨#[41]⟩]])] M2 [q] (pgM M j q true t (bs ++ bR ⟨k, n, nm, kids⟩ want)))) := by
   rintro s' Bf rfl ⟨e1, e2, e3⟩
   have hX := uL ⟨k, n, nm, kids⟩ want
   refine ⟨.inl rfl, ?_⟩
   rcases hQ with ⟨hl, -, rfl, hd⟩ | ⟨hl, -, rfl, v1, v2, hd, hp1, hp2⟩
   ·rw [if_neg hl] at hX
    rw [hX]
    exact .inl ⟨e1.trans hd, off _ _⟩
   ·rw [if_pos hl] at hX
    rw [hX] at hs ⊢
    simp only [List.length_cons, List.length_append, List.length_nil] at hs
    refine .inr ⟨v1, v2, pgM M j q true t (bs ++ [40] ++ dZ ⟨k, n, nm, kids⟩), e1.trans hd, e2 _ hp1, e3 _ _ hp2, off _ _, nJ h hWF, fun i hi => iI i hi, ?_⟩
    have hl := Rz (h.pgM (u' := true) (t' := t) (bs' := bs ++ [40] ++ dZ ⟨k, n, nm, kids⟩)) [⟨#[41]⟩] (by decide) MV
    rw [mq h.ne, Ii (by simp)] at hl
    have e : bs ++ [40] ++ dZ ⟨k, n, nm, kids⟩ ++ fq [(⟨#[41]⟩ : ByteArray)] = bs ++ 40 :: (dZ ⟨k, n, nm, kids⟩ ++ [41]) := by simp [fq]
    rw [e] at hl
    exact hl
  clear hQ off h hM
  have hcase : k = 1 ∨ k = 2 ∨ k = 3 ∨ k = 4 ∨ k = 5 ∨ k = 6 ∨ k = 7 ∨ k = 8 ∨ k = 9 ∨ k = 10 ∨ k = 11 ∨ k = 12 ∨ k = 13 ∨ k = 14 ∨ k = 15 ∨ k = 16 ∨ k = 17 ∨ k = 18 := by omega
  rcases hcase with rfl | rfl | rfl | rfl | rfl | rfl | rfl | rfl | rfl | rfl | rfl | rfl | rfl | rfl | rfl | rfl | rfl | rfl
  ·-- Lit
   have hT : dZ ⟨1, n, nm, kids⟩ = Lib.itoa n := by simp [dZ, sM]
   rw [hT] at hfit fin
   repeat (first | refine W.q ?_ | refine W.region ah b (by decide) (aG jy) ?_)
   refine W.cond rfl (fun _ => ?_) (fun h => absurd h (by decide))
   refine W.bl ?_
   refine W.ak ah b (by decide) ?_
   refine aj 3 oN ?_
   refine au rfl rfl rfl rfl rfl (by simp) cw1 (Ms n _) ?_
   refine aj 1 oN ?_
   refine aJ (D := [q]) rfl rfl rfl rfl rfl (fun i hi => by simp at hi; subst hi; exact nkq) (by simp) cw2 (pF h1 u' bs' [⟨(Lib.itoa n).toArray⟩] (by simp) (Nat.le_of_ble_eq_true rfl) fZ) ?_
   simp only [bQ, dw]
   refine xe0 ?_
   refine fin _ _ (by simp [fq]) ?_
   repeat (first | exact dP _ | refine eB (by decide) ?_ | refine dQ h1.ne ?_)
  ·-- Null
   have hT : dZ ⟨2, n, nm, kids⟩ = [110, 117, 108, 108] := by simp [dZ, sM]
   rw [hT] at hfit fin
   repeat (first | refine W.q ?_ | refine W.region ah b (by decide) (aG jy) ?_)
   iterate 1 (refine W.cond rfl (fun h => absurd h (by decide)) (fun _ => ?_); repeat (first | refine W.q ?_ | refine W.region ah b (by decide) (aG jy) ?_))
   refine W.cond rfl (fun _ => ?_) (fun h => absurd h (by decide))
   refine W.bl ?_
   refine W.ak ah b (by decide) ?_
   refine aj 2 oN ?_
   refine aJ (D := [q]) rfl rfl rfl rfl rfl (fun i hi => by simp at hi; subst hi; exact nkq) (by simp) cw2 (pF h1 u' bs' [⟨#[110, 117, 108, 108]⟩] (by simp) (Nat.le_of_ble_eq_true rfl) fZ) ?_
   simp only [bQ, dw]
   refine xe0 ?_
   refine fin _ _ (by simp [fq]) ?_
   repeat (first | exact dP _ | refine eB (by decide) ?_ | refine dQ h1.ne ?_)
  ·-- This
   have hT : dZ ⟨3, n, nm, kids⟩ = [116, 104, 105, 115] := by simp [dZ, sM]
   rw [hT] at hfit fin
   repeat (first | refine W.q ?_ | refine W.region ah b (by decide) (aG jy) ?_)
   iterate 2 (refine W.cond rfl (fun h => absurd h (by decide)) (fun _ => ?_); repeat (first | refine W.q ?_ | refine W.region ah b (by decide) (aG jy) ?_))
   refine W.cond rfl (fun _ => ?_) (fun h => absurd h (by decide))
   refine W.bl ?_
   refine W.ak ah b (by decide) ?_
   refine aj 2 oN ?_
   refine aJ (D := [q]) rfl rfl rfl rfl rfl (fun i hi => by simp at hi; subst hi; exact nkq) (by simp) cw2 (pF h1 u' bs' [⟨#[116, 104, 105, 115]⟩] (by simp) (Nat.le_of_ble_eq_true rfl) fZ) ?_
   simp only [bQ, dw]
   refine xe0 ?_
   refine fin _ _ (by simp [fq]) ?_
   repeat (first | exact dP _ | refine eB (by decide) ?_ | refine dQ h1.ne ?_)
  ·-- Var
   have hT : dZ ⟨4, n, nm, kids⟩ = nm.data.toList := by simp [dZ, sM]
   rw [hT] at hfit fin
   repeat (first | refine W.q ?_ | refine W.region ah b (by decide) (aG jy) ?_)
   iterate 3 (refine W.cond rfl (fun h => absurd h (by decide)) (fun _ => ?_); repeat (first | refine W.q ?_ | refine W.region ah b (by decide) (aG jy) ?_))
   refine W.cond rfl (fun _ => ?_) (fun h => absurd h (by decide))
   refine W.bl ?_
   refine W.ak ah b (by decide) ?_
   refine aj 4 oN ?_
   refine aJ (D := [q]) rfl rfl rfl rfl rfl (fun i hi => by simp at hi; subst hi; exact nkq) (by simp) cw2 (pF h1 u' bs' [nm] (by simp) (Nat.le_of_ble_eq_true rfl) fZ) ?_
   simp only [bQ, dw]
   refine xe0 ?_
   refine fin _ _ (by simp [fq]) ?_
   repeat (first | exact dP _ | refine eB (by decide) ?_ | refine dQ h1.ne ?_)
  ·-- New
   have hT : dZ ⟨5, n, nm, kids⟩ = [110, 101, 119, 32] ++ nm.data.toList ++ [40, 41] := by simp [dZ, sM]
   rw [hT] at hfit fin
   repeat (first | refine W.q ?_ | refine W.region ah b (by decide) (aG jy) ?_)
   iterate 4 (refine W.cond rfl (fun h => absurd h (by decide)) (fun _ => ?_); repeat (first | refine W.q ?_ | refine W.region ah b (by decide) (aG jy) ?_))
   refine W.cond rfl (fun _ => ?_) (fun h => absurd h (by decide))
   refine W.bl ?_
   refine W.ak ah b (by decide) ?_
   refine aj 4 oN ?_
   refine aJ (D := [q]) rfl rfl rfl rfl rfl (fun i hi => by simp at hi; subst hi; exact nkq) (by simp) cw2 (pF h1 u' bs' [⟨#[110, 101, 119, 32]⟩, nm, ⟨#[40, 41]⟩] (by simp) (Nat.le_of_ble_eq_true rfl) fZ) ?_
   simp only [bQ, dw]
   refine xe0 ?_
   refine fin _ _ (by simp [fq]) ?_
   repeat (first | exact dP _ | refine eB (by decide) ?_ | refine dQ h1.ne ?_)
  ·-- NewArray
   obtain ⟨y, rfl⟩ : ∃ y, kids = [y] := len1 hlo hhi
   have hT : dZ ⟨6, n, nm, [y]⟩ = [110, 101, 119, 32, 105, 110, 116, 91] ++ jQ [y] ++ [93] := by rw [ig, ← oP]; rfl
   rw [hT] at hfit fin
   have hlen : [y].length ≤ 100 := by simp
   repeat (first | refine W.q ?_ | refine W.region ah b (by decide) (aG jy) ?_)
   iterate 5 (refine W.cond rfl (fun h => absurd h (by decide)) (fun _ => ?_); repeat (first | refine W.q ?_ | refine W.region ah b (by decide) (aG jy) ?_))
   refine W.cond rfl (fun _ => ?_) (fun h => absurd h (by decide))
   refine W.bl ?_
   refine W.ak ah b (by decide) ?_
   refine aj 2 oN ?_
   refine aJ (D := [q]) rfl rfl rfl rfl rfl (fun i hi => by simp at hi; subst hi; exact nkq) (by simp) cw2 (pF h1 u' bs' [⟨#[110, 101, 119, 32, 105, 110, 116, 91]⟩] (by simp) (Nat.le_of_ble_eq_true rfl) fZ) ?_
   simp only [bQ, dw]
   refine xe0 ?_
   refine W.bl ?_
   refine W.ak ah b (by decide) ?_
   refine aj 3 qp ?_
   refine aJ (D := [q]) rfl rfl rfl rfl rfl (fun i hi => by simp at hi; subst hi; exact nkq) (by simp) cw3 (IQ h1 f1 (l := [y]) (fun y hy => hE y (by simp [hy])) (Nat.le_trans hlen (by decide)) true (bs' ++ fq [⟨#[110, 101, 119, 32, 105, 110, 116, 91]⟩]) ⟨#[93]⟩ Qh) ?_
   simp only [bQ, dw]
   refine xe0 ?_
   refine fin _ _ (by simp [fq]) ?_
   repeat (first | exact dP _ | refine eB (by decide) ?_ | refine dQ h1.ne ?_)
  ·-- Field
   obtain ⟨⟨yk, yn, ym, ys⟩, rfl⟩ : ∃ y, kids = [y] := len1 hlo hhi
   have hT : dZ ⟨7, n, nm, [⟨yk, yn, ym, ys⟩]⟩ = bR ⟨yk, yn, ym, ys⟩ 4 ++ [46] ++ nm.data.toList := by rw [ig, ← fK (l := [⟨yk, yn, ym, ys⟩]) (i := 0) rfl]; rfl
   rw [hT] at hfit fin
   repeat (first | refine W.q ?_ | refine W.region ah b (by decide) (aG jy) ?_)
   iterate 6 (refine W.cond rfl (fun h => absurd h (by decide)) (fun _ => ?_); repeat (first | refine W.q ?_ | refine W.region ah b (by decide) (aG jy) ?_))
   refine W.cond rfl (fun _ => ?_) (fun h => absurd h (by decide))
   refine W.bl ?_
   refine W.ak ah b (by decide) ?_
   refine aj 5 qp ?_
   refine aJ (D := [q]) rfl rfl rfl rfl rfl (fun i hi => by simp at hi; subst hi; exact nkq) (by simp) cw3 (lX h1 f1 (hE ⟨yk, yn, ym, ys⟩ (by simp)) u' bs' 4 fZ) ?_
   simp only [bQ, dw]
   refine xe0 ?_
   refine W.bl ?_
   refine W.ak ah b (by decide) ?_
   refine aj 4 oN ?_
   refine aJ (D := [q]) rfl rfl rfl rfl rfl (fun i hi => by simp at hi; subst hi; exact nkq) (by simp) cw2 (pF h1 true (bs' ++ bR ⟨yk, yn, ym, ys⟩ 4) [⟨#[46]⟩, nm] (by simp) (Nat.le_of_ble_eq_true rfl) fZ) ?_
   simp only [bQ, dw]
   refine xe0 ?_
   refine fin _ _ (by simp [fq]) ?_
   repeat (first | exact dP _ | refine eB (by decide) ?_ | refine dQ h1.ne ?_)
  ·-- Elem
   obtain ⟨⟨yk, yn, ym, ys⟩, y2, rfl⟩ : ∃ y y2, kids = [y, y2] := Ac hlo hhi
   have hT : dZ ⟨8, n, nm, [⟨yk, yn, ym, ys⟩, y2]⟩ = bR ⟨yk, yn, ym, ys⟩ 4 ++ [91] ++ jQ [y2] ++ [93] := by rw [ig, ← fK (l := [⟨yk, yn, ym, ys⟩, y2]) (i := 0) rfl, ← oP]; rfl
   rw [hT] at hfit fin
   have hlen : [y2].length ≤ 100 := by simp
   have hsl := eq_true (Or.inr (Lg [⟨yk, yn, ym, ys⟩, y2]) : False ∨ ∀ x ∈ [[C.int .i64 yk, C.int .i64 yn, C.str ym, C.sl (fB ys)], cExpr y2], x.length = 4)
   repeat (first | refine W.q ?_ | refine W.region ah b (by decide) (aG jy) ?_)
   iterate 7 (refine W.cond rfl (fun h => absurd h (by decide)) (fun _ => ?_); repeat (first | refine W.q ?_ | refine W.region ah b (by decide) (aG jy) ?_))
   refine W.cond rfl (fun _ => ?_) (fun h => absurd h (by decide))
   refine W.bl ?_
   refine W.ak ah b (by decide) ?_
   refine aj 5 qp ?_
   refine aJ (D := [q]) rfl rfl rfl rfl rfl (fun i hi => by simp at hi; subst hi; exact nkq) (by simp) cw3 (lX h1 f1 (hE ⟨yk, yn, ym, ys⟩ (by simp)) u' bs' 4 fZ) ?_
   simp only [bQ, dw]
   refine xe0 ?_
   refine W.bl ?_
   refine W.ak ah b (by decide) ?_
   refine aj 2 oN ?_
   refine aJ (D := [q]) rfl rfl rfl rfl rfl (fun i hi => by simp at hi; subst hi; exact nkq) (by simp) cw2 (pF h1 true (bs' ++ bR ⟨yk, yn, ym, ys⟩ 4) [⟨#[91]⟩] (by simp) (Nat.le_of_ble_eq_true rfl) fZ) ?_
   simp only [bQ, dw]
   refine xe0 ?_
   refine W.bl ?_
   refine W.ak ah b (by decide) ?_
   refine aj 4 (by simp only [exb, simprocAttr, aM, A.kill, jq, b4q, b6q, if_false, h0, h4, h6, hm4, hm6, cExpr, xD, fB, hsl, if_true]; rfl) ?_
   refine aJ (D := [q]) rfl rfl rfl rfl rfl (fun i hi => by simp at hi; subst hi; exact nkq) (by simp) cw3 (IQ h1 f1 (l := [y2]) (fun y hy => hE y (by simp [hy])) (Nat.le_trans hlen (by decide)) true (bs' ++ bR ⟨yk, yn, ym, ys⟩ 4 ++ fq [⟨#[91]⟩]) ⟨#[93]⟩ Qh) ?_
   simp only [bQ, dw]
   refine xe0 ?_
   refine fin _ _ (by simp [fq]) ?_
   repeat (first | exact dP _ | refine eB (by decide) ?_ | refine dQ h1.ne ?_)
  ·-- Length
   obtain ⟨⟨yk, yn, ym, ys⟩, rfl⟩ : ∃ y, kids = [y] := len1 hlo hhi
   have hT : dZ ⟨9, n, nm, [⟨yk, yn, ym, ys⟩]⟩ = bR ⟨yk, yn, ym, ys⟩ 4 ++ [46, 108, 101, 110, 103, 116, 104] := by rw [ig, ← fK (l := [⟨yk, yn, ym, ys⟩]) (i := 0) rfl]; rfl
   rw [hT] at hfit fin
   repeat (first | refine W.q ?_ | refine W.region ah b (by decide) (aG jy) ?_)
   iterate 8 (refine W.cond rfl (fun h => absurd h (by decide)) (fun _ => ?_); repeat (first | refine W.q ?_ | refine W.region ah b (by decide) (aG jy) ?_))
   refine W.cond rfl (fun _ => ?_) (fun h => absurd h (by decide))
   refine W.bl ?_
   refine W.ak ah b (by decide) ?_
   refine aj 5 qp ?_
   refine aJ (D := [q]) rfl rfl rfl rfl rfl (fun i hi => by simp at hi; subst hi; exact nkq) (by simp) cw3 (lX h1 f1 (hE ⟨yk, yn, ym, ys⟩ (by simp)) u' bs' 4 fZ) ?_
   simp only [bQ, dw]
   refine xe0 ?_
   refine W.bl ?_
   refine W.ak ah b (by decide) ?_
   refine aj 2 oN ?_
   refine aJ (D := [q]) rfl rfl rfl rfl rfl (fun i hi => by simp at hi; subst hi; exact nkq) (by simp) cw2 (pF h1 true (bs' ++ bR ⟨yk, yn, ym, ys⟩ 4) [⟨#[46, 108, 101, 110, 103, 116, 104]⟩] (by simp) (Nat.le_of_ble_eq_true rfl) fZ) ?_
   simp only [bQ, dw]
   refine xe0 ?_
   refine fin _ _ (by simp [fq]) ?_
   repeat (first | exact dP _ | refine eB (by decide) ?_ | refine dQ h1.ne ?_)
  ·-- Call
   obtain ⟨⟨yk, yn, ym, ys⟩, r, rfl, hlen⟩ : ∃ y r, kids = y :: r ∧ r.length ≤ 100 := TF hlo hhi
   have hT : dZ ⟨10, n, nm, ⟨yk, yn, ym, ys⟩ :: r⟩ = bR ⟨yk, yn, ym, ys⟩ 4 ++ [46] ++ nm.data.toList ++ [40] ++ jQ r ++ [41] := by rw [ig, ← fK (l := ⟨yk, yn, ym, ys⟩ :: r) (i := 0) rfl, ← oP]; rfl
   rw [hT] at hfit fin
   have hsl := eq_true (Or.inr (Lg (⟨yk, yn, ym, ys⟩ :: r)) : False ∨ ∀ x ∈ [C.int .i64 yk, C.int .i64 yn, C.str ym, C.sl (fB ys)] :: fB r, x.length = 4)
   repeat (first | refine W.q ?_ | refine W.region ah b (by decide) (aG jy) ?_)
   iterate 9 (refine W.cond rfl (fun h => absurd h (by decide)) (fun _ => ?_); repeat (first | refine W.q ?_ | refine W.region ah b (by decide) (aG jy) ?_))
   refine W.cond rfl (fun _ => ?_) (fun h => absurd h (by decide))
   refine W.bl ?_
   refine W.ak ah b (by decide) ?_
   refine aj 5 qp ?_
   refine aJ (D := [q]) rfl rfl rfl rfl rfl (fun i hi => by simp at hi; subst hi; exact nkq) (by simp) cw3 (lX h1 f1 (hE ⟨yk, yn, ym, ys⟩ (by simp)) u' bs' 4 fZ) ?_
   simp only [bQ, dw]
   refine xe0 ?_
   refine W.bl ?_
   refine W.ak ah b (by decide) ?_
   refine aj 4 oN ?_
   refine aJ (D := [q]) rfl rfl rfl rfl rfl (fun i hi => by simp at hi; subst hi; exact nkq) (by simp) cw2 (pF h1 true (bs' ++ bR ⟨yk, yn, ym, ys⟩ 4) [⟨#[46]⟩, nm, ⟨#[40]⟩] (by simp) (Nat.le_of_ble_eq_true rfl) fZ) ?_
   simp only [bQ, dw]
   refine xe0 ?_
   refine W.bl ?_
   refine W.ak ah b (by decide) ?_
   refine aj 4 (by simp only [exb, simprocAttr, aM, A.kill, jq, b4q, b6q, if_false, h0, h4, h6, hm4, hm6, cExpr, xD, fB, hsl, if_true, Nat.le_refl, List.take_length]; rfl) ?_
   refine aJ (D := [q]) rfl rfl rfl rfl rfl (fun i hi => by simp at hi; subst hi; exact nkq) (by simp) cw3 (IQ h1 f1 (l := r) (fun y hy => hE y (by simp [hy])) (Nat.le_trans hlen (by decide)) true (bs' ++ bR ⟨yk, yn, ym, ys⟩ 4 ++ fq [⟨#[46]⟩, nm, ⟨#[40]⟩]) ⟨#[41]⟩ Qh) ?_
   simp only [bQ, dw]
   refine xe0 ?_
   refine fin _ _ (by simp [fq]) ?_
   repeat (first | exact dP _ | refine eB (by decide) ?_ | refine dQ h1.ne ?_)
  ·-- Read
   have hT : dZ ⟨11, n, nm, kids⟩ = [114, 101, 97, 100, 40] ++ Lib.itoa n ++ [41] := by simp [dZ, sM]
   rw [hT] at hfit fin
   repeat (first | refine W.q ?_ | refine W.region ah b (by decide) (aG jy) ?_)
   iterate 10 (refine W.cond rfl (fun h => absurd h (by decide)) (fun _ => ?_); repeat (first | refine W.q ?_ | refine W.region ah b (by decide) (aG jy) ?_))
   refine W.cond rfl (fun _ => ?_) (fun h => absurd h (by decide))
   refine W.bl ?_
   refine W.ak ah b (by decide) ?_
   refine aj 3 oN ?_
   refine au rfl rfl rfl rfl rfl (by simp) cw1 (Ms n _) ?_
   refine aj 1 oN ?_
   refine aJ (D := [q]) rfl rfl rfl rfl rfl (fun i hi => by simp at hi; subst hi; exact nkq) (by simp) cw2 (pF h1 u' bs' [⟨#[114, 101, 97, 100, 40]⟩, ⟨(Lib.itoa n).toArray⟩, ⟨#[41]⟩] (by simp) (Nat.le_of_ble_eq_true rfl) fZ) ?_
   simp only [bQ, dw]
   refine xe0 ?_
   refine fin _ _ (by simp [fq]) ?_
   repeat (first | exact dP _ | refine eB (by decide) ?_ | refine dQ h1.ne ?_)
  ·-- Declass
   obtain ⟨y, rfl⟩ : ∃ y, kids = [y] := len1 hlo hhi
   have hT : dZ ⟨12, n, nm, [y]⟩ = [100, 101, 99, 108, 97, 115, 115, 105, 102, 121, 40] ++ jQ [y] ++ [41] := by rw [ig, ← oP]; rfl
   rw [hT] at hfit fin
   have hlen : [y].length ≤ 100 := by simp
   repeat (first | refine W.q ?_ | refine W.region ah b (by decide) (aG jy) ?_)
   iterate 11 (refine W.cond rfl (fun h => absurd h (by decide)) (fun _ => ?_); repeat (first | refine W.q ?_ | refine W.region ah b (by decide) (aG jy) ?_))
   refine W.cond rfl (fun _ => ?_) (fun h => absurd h (by decide))
   refine W.bl ?_
   refine W.ak ah b (by decide) ?_
   refine aj 2 oN ?_
   refine aJ (D := [q]) rfl rfl rfl rfl rfl (fun i hi => by simp at hi; subst hi; exact nkq) (by simp) cw2 (pF h1 u' bs' [⟨#[100, 101, 99, 108, 97, 115, 115, 105, 102, 121, 40]⟩] (by simp) (Nat.le_of_ble_eq_true rfl) fZ) ?_
   simp only [bQ, dw]
   refine xe0 ?_
   refine W.bl ?_
   refine W.ak ah b (by decide) ?_
   refine aj 3 qp ?_
   refine aJ (D := [q]) rfl rfl rfl rfl rfl (fun i hi => by simp at hi; subst hi; exact nkq) (by simp) cw3 (IQ h1 f1 (l := [y]) (fun y hy => hE y (by simp [hy])) (Nat.le_trans hlen (by decide)) true (bs' ++ fq [⟨#[100, 101, 99, 108, 97, 115, 115, 105, 102, 121, 40]⟩]) ⟨#[41]⟩ Qh) ?_
   simp only [bQ, dw]
   refine xe0 ?_
   refine fin _ _ (by simp [fq]) ?_
   repeat (first | exact dP _ | refine eB (by decide) ?_ | refine dQ h1.ne ?_)
  ·obtain ⟨⟨yk, yn, ym, ys⟩, ⟨zk, zn, zm, zs⟩, rfl⟩ : ∃ y y2, kids = [y, y2] := Ac hlo hhi
   have hT : dZ ⟨13, n, nm, [⟨yk, yn, ym, ys⟩, ⟨zk, zn, zm, zs⟩]⟩ = bR ⟨yk, yn, ym, ys⟩ 2 ++ [32, 43, 32] ++ bR ⟨zk, zn, zm, zs⟩ 3 := by
    rw [ig, ← fK (l := [⟨yk, yn, ym, ys⟩, ⟨zk, zn, zm, zs⟩]) (i := 0) rfl, ← fK (l := [⟨yk, yn, ym, ys⟩, ⟨zk, zn, zm, zs⟩]) (i := 1) rfl]; rfl
   rw [hT] at hfit fin
   have hlv : (shapeOf 13).1.level = 2 := rfl
   have hsg : (shapeOf 13).1.sign = ⟨#[32, 43, 32]⟩ := rfl
   rw [hlv, hsg] at hm6
   repeat (first | refine W.q ?_ | refine W.region ah b (by decide) (aG jy) ?_)
   iterate 12 (refine W.cond rfl (fun h => absurd h (by decide)) (fun _ => ?_); repeat (first | refine W.q ?_ | refine W.region ah b (by decide) (aG jy) ?_))
   refine W.bM ah b aF (by kernel_rfl) (by decide) ?_
   refine aj 8 qp ?_
   refine aJ (D := [q]) rfl rfl rfl rfl rfl (fun i hi => by simp at hi; subst hi; exact nkq) (by simp) cw3 (lX h1 f1 (hE ⟨yk, yn, ym, ys⟩ (by simp)) u' bs' 2 fZ) ?_
   simp only [bQ, dw]
   refine xe0 ?_
   refine W.bl ?_
   refine W.ak ah b (by decide) ?_
   refine aj 4 oN ?_
   refine aJ (D := [q]) rfl rfl rfl rfl rfl (fun i hi => by simp at hi; subst hi; exact nkq) (by simp) cw2 (pF h1 true (bs' ++ bR ⟨yk, yn, ym, ys⟩ 2) [⟨#[32, 43, 32]⟩] (by simp) (Nat.le_of_ble_eq_true rfl) fZ) ?_
   simp only [bQ, dw]
   refine xe0 ?_
   refine W.bl ?_
   refine W.bM ah b aF (by kernel_rfl) (by decide) ?_
   refine aj 8 qp ?_
   refine aJ (D := [q]) rfl rfl rfl rfl rfl (fun i hi => by simp at hi; subst hi; exact nkq) (by simp) cw3 (lX h1 f1 (hE ⟨zk, zn, zm, zs⟩ (by simp)) true (bs' ++ bR ⟨yk, yn, ym, ys⟩ 2 ++ fq [⟨#[32, 43, 32]⟩]) 3 fZ) ?_
   simp only [bQ, dw]
   refine xe0 ?_
   refine fin _ _ (by simp [fq]) ?_
   repeat (first | exact dP _ | refine eB (by decide) ?_ | refine dQ h1.ne ?_)
  ·obtain ⟨⟨yk, yn, ym, ys⟩, ⟨zk, zn, zm, zs⟩, rfl⟩ : ∃ y y2, kids = [y, y2] := Ac hlo hhi
   have hT : dZ ⟨14, n, nm, [⟨yk, yn, ym, ys⟩, ⟨zk, zn, zm, zs⟩]⟩ = bR ⟨yk, yn, ym, ys⟩ 2 ++ [32, 45, 32] ++ bR ⟨zk, zn, zm, zs⟩ 3 := by
    rw [ig, ← fK (l := [⟨yk, yn, ym, ys⟩, ⟨zk, zn, zm, zs⟩]) (i := 0) rfl, ← fK (l := [⟨yk, yn, ym, ys⟩, ⟨zk, zn, zm, zs⟩]) (i := 1) rfl]; rfl
   rw [hT] at hfit fin
   have hlv : (shapeOf 14).1.level = 2 := rfl
   have hsg : (shapeOf 14).1.sign = ⟨#[32, 45, 32]⟩ := rfl
   rw [hlv, hsg] at hm6
   repeat (first | refine W.q ?_ | refine W.region ah b (by decide) (aG jy) ?_)
   iterate 12 (refine W.cond rfl (fun h => absurd h (by decide)) (fun _ => ?_); repeat (first | refine W.q ?_ | refine W.region ah b (by decide) (aG jy) ?_))
   refine W.bM ah b aF (by kernel_rfl) (by decide) ?_
   refine aj 8 qp ?_
   refine aJ (D := [q]) rfl rfl rfl rfl rfl (fun i hi => by simp at hi; subst hi; exact nkq) (by simp) cw3 (lX h1 f1 (hE ⟨yk, yn, ym, ys⟩ (by simp)) u' bs' 2 fZ) ?_
   simp only [bQ, dw]
   refine xe0 ?_
   refine W.bl ?_
   refine W.ak ah b (by decide) ?_
   refine aj 4 oN ?_
   refine aJ (D := [q]) rfl rfl rfl rfl rfl (fun i hi => by simp at hi; subst hi; exact nkq) (by simp) cw2 (pF h1 true (bs' ++ bR ⟨yk, yn, ym, ys⟩ 2) [⟨#[32, 45, 32]⟩] (by simp) (Nat.le_of_ble_eq_true rfl) fZ) ?_
   simp only [bQ, dw]
   refine xe0 ?_
   refine W.bl ?_
   refine W.bM ah b aF (by kernel_rfl) (by decide) ?_
   refine aj 8 qp ?_
   refine aJ (D := [q]) rfl rfl rfl rfl rfl (fun i hi => by simp at hi; subst hi; exact nkq) (by simp) cw3 (lX h1 f1 (hE ⟨zk, zn, zm, zs⟩ (by simp)) true (bs' ++ bR ⟨yk, yn, ym, ys⟩ 2 ++ fq [⟨#[32, 45, 32]⟩]) 3 fZ) ?_
   simp only [bQ, dw]
   refine xe0 ?_
   refine fin _ _ (by simp [fq]) ?_
   repeat (first | exact dP _ | refine eB (by decide) ?_ | refine dQ h1.ne ?_)
  ·obtain ⟨⟨yk, yn, ym, ys⟩, ⟨zk, zn, zm, zs⟩, rfl⟩ : ∃ y y2, kids = [y, y2] := Ac hlo hhi
   have hT : dZ ⟨15, n, nm, [⟨yk, yn, ym, ys⟩, ⟨zk, zn, zm, zs⟩]⟩ = bR ⟨yk, yn, ym, ys⟩ 3 ++ [32, 42, 32] ++ bR ⟨zk, zn, zm, zs⟩ 4 := by
    rw [ig, ← fK (l := [⟨yk, yn, ym, ys⟩, ⟨zk, zn, zm, zs⟩]) (i := 0) rfl, ← fK (l := [⟨yk, yn, ym, ys⟩, ⟨zk, zn, zm, zs⟩]) (i := 1) rfl]; rfl
   rw [hT] at hfit fin
   have hlv : (shapeOf 15).1.level = 3 := rfl
   have hsg : (shapeOf 15).1.sign = ⟨#[32, 42, 32]⟩ := rfl
   rw [hlv, hsg] at hm6
   repeat (first | refine W.q ?_ | refine W.region ah b (by decide) (aG jy) ?_)
   iterate 12 (refine W.cond rfl (fun h => absurd h (by decide)) (fun _ => ?_); repeat (first | refine W.q ?_ | refine W.region ah b (by decide) (aG jy) ?_))
   refine W.bM ah b aF (by kernel_rfl) (by decide) ?_
   refine aj 8 qp ?_
   refine aJ (D := [q]) rfl rfl rfl rfl rfl (fun i hi => by simp at hi; subst hi; exact nkq) (by simp) cw3 (lX h1 f1 (hE ⟨yk, yn, ym, ys⟩ (by simp)) u' bs' 3 fZ) ?_
   simp only [bQ, dw]
   refine xe0 ?_
   refine W.bl ?_
   refine W.ak ah b (by decide) ?_
   refine aj 4 oN ?_
   refine aJ (D := [q]) rfl rfl rfl rfl rfl (fun i hi => by simp at hi; subst hi; exact nkq) (by simp) cw2 (pF h1 true (bs' ++ bR ⟨yk, yn, ym, ys⟩ 3) [⟨#[32, 42, 32]⟩] (by simp) (Nat.le_of_ble_eq_true rfl) fZ) ?_
   simp only [bQ, dw]
   refine xe0 ?_
   refine W.bl ?_
   refine W.bM ah b aF (by kernel_rfl) (by decide) ?_
   refine aj 8 qp ?_
   refine aJ (D := [q]) rfl rfl rfl rfl rfl (fun i hi => by simp at hi; subst hi; exact nkq) (by simp) cw3 (lX h1 f1 (hE ⟨zk, zn, zm, zs⟩ (by simp)) true (bs' ++ bR ⟨yk, yn, ym, ys⟩ 3 ++ fq [⟨#[32, 42, 32]⟩]) 4 fZ) ?_
   simp only [bQ, dw]
   refine xe0 ?_
   refine fin _ _ (by simp [fq]) ?_
   repeat (first | exact dP _ | refine eB (by decide) ?_ | refine dQ h1.ne ?_)
  ·obtain ⟨⟨yk, yn, ym, ys⟩, ⟨zk, zn, zm, zs⟩, rfl⟩ : ∃ y y2, kids = [y, y2] := Ac hlo hhi
   have hT : dZ ⟨16, n, nm, [⟨yk, yn, ym, ys⟩, ⟨zk, zn, zm, zs⟩]⟩ = bR ⟨yk, yn, ym, ys⟩ 3 ++ [32, 47, 32] ++ bR ⟨zk, zn, zm, zs⟩ 4 := by
    rw [ig, ← fK (l := [⟨yk, yn, ym, ys⟩, ⟨zk, zn, zm, zs⟩]) (i := 0) rfl, ← fK (l := [⟨yk, yn, ym, ys⟩, ⟨zk, zn, zm, zs⟩]) (i := 1) rfl]; rfl
   rw [hT] at hfit fin
   have hlv : (shapeOf 16).1.level = 3 := rfl
   have hsg : (shapeOf 16).1.sign = ⟨#[32, 47, 32]⟩ := rfl
   rw [hlv, hsg] at hm6
   repeat (first | refine W.q ?_ | refine W.region ah b (by decide) (aG jy) ?_)
   iterate 12 (refine W.cond rfl (fun h => absurd h (by decide)) (fun _ => ?_); repeat (first | refine W.q ?_ | refine W.region ah b (by decide) (aG jy) ?_))
   refine W.bM ah b aF (by kernel_rfl) (by decide) ?_
   refine aj 8 qp ?_
   refine aJ (D := [q]) rfl rfl rfl rfl rfl (fun i hi => by simp at hi; subst hi; exact nkq) (by simp) cw3 (lX h1 f1 (hE ⟨yk, yn, ym, ys⟩ (by simp)) u' bs' 3 fZ) ?_
   simp only [bQ, dw]
   refine xe0 ?_
   refine W.bl ?_
   refine W.ak ah b (by decide) ?_
   refine aj 4 oN ?_
   refine aJ (D := [q]) rfl rfl rfl rfl rfl (fun i hi => by simp at hi; subst hi; exact nkq) (by simp) cw2 (pF h1 true (bs' ++ bR ⟨yk, yn, ym, ys⟩ 3) [⟨#[32, 47, 32]⟩] (by simp) (Nat.le_of_ble_eq_true rfl) fZ) ?_
   simp only [bQ, dw]
   refine xe0 ?_
   refine W.bl ?_
   refine W.bM ah b aF (by kernel_rfl) (by decide) ?_
   refine aj 8 qp ?_
   refine aJ (D := [q]) rfl rfl rfl rfl rfl (fun i hi => by simp at hi; subst hi; exact nkq) (by simp) cw3 (lX h1 f1 (hE ⟨zk, zn, zm, zs⟩ (by simp)) true (bs' ++ bR ⟨yk, yn, ym, ys⟩ 3 ++ fq [⟨#[32, 47, 32]⟩]) 4 fZ) ?_
   simp only [bQ, dw]
   refine xe0 ?_
   refine fin _ _ (by simp [fq]) ?_
   repeat (first | exact dP _ | refine eB (by decide) ?_ | refine dQ h1.ne ?_)
  ·obtain ⟨⟨yk, yn, ym, ys⟩, ⟨zk, zn, zm, zs⟩, rfl⟩ : ∃ y y2, kids = [y, y2] := Ac hlo hhi
   have hT : dZ ⟨17, n, nm, [⟨yk, yn, ym, ys⟩, ⟨zk, zn, zm, zs⟩]⟩ = bR ⟨yk, yn, ym, ys⟩ 2 ++ [32, 60, 32] ++ bR ⟨zk, zn, zm, zs⟩ 2 := by
    rw [ig, ← fK (l := [⟨yk, yn, ym, ys⟩, ⟨zk, zn, zm, zs⟩]) (i := 0) rfl, ← fK (l := [⟨yk, yn, ym, ys⟩, ⟨zk, zn, zm, zs⟩]) (i := 1) rfl]; rfl
   rw [hT] at hfit fin
   have hlv : (shapeOf 17).1.level = 1 := rfl
   have hsg : (shapeOf 17).1.sign = ⟨#[32, 60, 32]⟩ := rfl
   rw [hlv, hsg] at hm6
   repeat (first | refine W.q ?_ | refine W.region ah b (by decide) (aG jy) ?_)
   iterate 12 (refine W.cond rfl (fun h => absurd h (by decide)) (fun _ => ?_); repeat (first | refine W.q ?_ | refine W.region ah b (by decide) (aG jy) ?_))
   refine W.bM ah b aF (by kernel_rfl) (by decide) ?_
   refine aj 8 qp ?_
   refine aJ (D := [q]) rfl rfl rfl rfl rfl (fun i hi => by simp at hi; subst hi; exact nkq) (by simp) cw3 (lX h1 f1 (hE ⟨yk, yn, ym, ys⟩ (by simp)) u' bs' 2 fZ) ?_
   simp only [bQ, dw]
   refine xe0 ?_
   refine W.bl ?_
   refine W.ak ah b (by decide) ?_
   refine aj 4 oN ?_
   refine aJ (D := [q]) rfl rfl rfl rfl rfl (fun i hi => by simp at hi; subst hi; exact nkq) (by simp) cw2 (pF h1 true (bs' ++ bR ⟨yk, yn, ym, ys⟩ 2) [⟨#[32, 60, 32]⟩] (by simp) (Nat.le_of_ble_eq_true rfl) fZ) ?_
   simp only [bQ, dw]
   refine xe0 ?_
   refine W.bl ?_
   refine W.bM ah b aF (by kernel_rfl) (by decide) ?_
   refine aj 8 qp ?_
   refine aJ (D := [q]) rfl rfl rfl rfl rfl (fun i hi => by simp at hi; subst hi; exact nkq) (by simp) cw3 (lX h1 f1 (hE ⟨zk, zn, zm, zs⟩ (by simp)) true (bs' ++ bR ⟨yk, yn, ym, ys⟩ 2 ++ fq [⟨#[32, 60, 32]⟩]) 2 fZ) ?_
   simp only [bQ, dw]
   refine xe0 ?_
   refine fin _ _ (by simp [fq]) ?_
   repeat (first | exact dP _ | refine eB (by decide) ?_ | refine dQ h1.ne ?_)
  ·obtain ⟨⟨yk, yn, ym, ys⟩, ⟨zk, zn, zm, zs⟩, rfl⟩ : ∃ y y2, kids = [y, y2] := Ac hlo hhi
   have hT : dZ ⟨18, n, nm, [⟨yk, yn, ym, ys⟩, ⟨zk, zn, zm, zs⟩]⟩ = bR ⟨yk, yn, ym, ys⟩ 2 ++ [32, 61, 61, 32] ++ bR ⟨zk, zn, zm, zs⟩ 2 := by
    rw [ig, ← fK (l := [⟨yk, yn, ym, ys⟩, ⟨zk, zn, zm, zs⟩]) (i := 0) rfl, ← fK (l := [⟨yk, yn, ym, ys⟩, ⟨zk, zn, zm, zs⟩]) (i := 1) rfl]; rfl
   rw [hT] at hfit fin
   have hlv : (shapeOf 18).1.level = 1 := rfl
   have hsg : (shapeOf 18).1.sign = ⟨#[32, 61, 61, 32]⟩ := rfl
   rw [hlv, hsg] at hm6
   repeat (first | refine W.q ?_ | refine W.region ah b (by decide) (aG jy) ?_)
   iterate 12 (refine W.cond rfl (fun h => absurd h (by decide)) (fun _ => ?_); repeat (first | refine W.q ?_ | refine W.region ah b (by decide) (aG jy) ?_))
   refine W.bM ah b aF (by kernel_rfl) (by decide) ?_
   refine aj 8 qp ?_
   refine aJ (D := [q]) rfl rfl rfl rfl rfl (fun i hi => by simp at hi; subst hi; exact nkq) (by simp) cw3 (lX h1 f1 (hE ⟨yk, yn, ym, ys⟩ (by simp)) u' bs' 2 fZ) ?_
   simp only [bQ, dw]
   refine xe0 ?_
   refine W.bl ?_
   refine W.ak ah b (by decide) ?_
   refine aj 4 oN ?_
   refine aJ (D := [q]) rfl rfl rfl rfl rfl (fun i hi => by simp at hi; subst hi; exact nkq) (by simp) cw2 (pF h1 true (bs' ++ bR ⟨yk, yn, ym, ys⟩ 2) [⟨#[32, 61, 61, 32]⟩] (by simp) (Nat.le_of_ble_eq_true rfl) fZ) ?_
   simp only [bQ, dw]
   refine xe0 ?_
   refine W.bl ?_
   refine W.bM ah b aF (by kernel_rfl) (by decide) ?_
   refine aj 8 qp ?_
   refine aJ (D := [q]) rfl rfl rfl rfl rfl (fun i hi => by simp at hi; subst hi; exact nkq) (by simp) cw3 (lX h1 f1 (hE ⟨zk, zn, zm, zs⟩ (by simp)) true (bs' ++ bR ⟨yk, yn, ym, ys⟩ 2 ++ fq [⟨#[32, 61, 61, 32]⟩]) 2 fZ) ?_
   simp only [bQ, dw]
   refine xe0 ?_
   refine fin _ _ (by simp [fq]) ?_
   repeat (first | exact dP _ | refine eB (by decide) ?_ | refine dQ h1.ne ?_)
end V
end Go.Proofs.YthhpcjoaogmhbaaGreatDoor
end
section
namespace Go.Proofs.YthhpcjoaogmhbaaGreatDoor
open Go.RowKit
set_option maxHeartbeats 2000000 in
set_option maxRecDepth 100000 in
theorem Gt (b g cap : Nat) (p t : Value) (cur : Array Value) (l : List UInt8) (w : World) (h0 : l ≠ []) (hbk : w.heap[b]? = some (.cells #[p, .slice (some ⟨g, 0, none⟩) l.length cap, t] 74 (0, 0))) (hg : w.heap[g]? = some (.cells cur 5 (0, 0)))
 (hnc : l.length ≤ cap) (hcm : cap ≤ maxLen) (hcs : cur.size = cap) (hcell : ∀ j x, l[j]? = some x → w.cell? ((⟨g, 0, none⟩ : Addr).add j) = some (.int .u8 x.toNat)) :
 Calls Tryz.prog 70 #[.pointer (some ⟨b, 0, none⟩)] w fun e w' => e = .returned (.string ⟨l.toArray⟩) ∧ w' = w.drew.freeze ⟨g, 0, none⟩ l.length := by
 have hl0 : l.length ≠ 0 := by simpa using h0
 have c1 : w.drew.cell? ⟨b, 1, none⟩ = some (.slice (some ⟨g, 0, none⟩) l.length cap) := by
  have : w.drew.heap[b]? = some (.cells #[p, .slice (some ⟨g, 0, none⟩) l.length cap, t] 74 (0, 0)) := hbk
  rw [Lib.cell_of_heap this]; rfl
 have hSD : (Builtin.unsafeSliceData_ #[70] 132 #[.slice (some ⟨g, 0, none⟩) l.length cap]).run Tryz.prog w.drew = .ok (.pointer (some ⟨g, 0, none⟩)) w.drew :=
  Lib.run_unsafeSliceData_row _ _ _ _ _ _ (by omega)
 have hUS : (Builtin.unsafeString_ #[132, 3] 9 #[.pointer (some ⟨g, 0, none⟩), .int .i64 l.length]).run Tryz.prog w.drew = .ok (.string ⟨l.toArray⟩) (w.drew.freeze ⟨g, 0, none⟩ l.length) := by
  refine Lib.run_unsafeString_row w.drew 132 3 9 5 Tryz.underlying132 (by kernel_rfl) g cur.size (by have hg' : w.drew.heap[g]? = some (.cells cur 5 (0, 0)) := hg; simp [World.shape?, hg']) l h0 (by omega) (by unfold maxLen at hcm; omega) ?_
  intro j x hx
  exact hcell j x hx
 clear hcell
 have mixed := V.aF
 go_enter Tryz.func70, Tryz.ntmps70
 go_wp2
 go_region_o
 all_goals (go_wp2; go_ret; exact ⟨rfl, rfl⟩)
namespace V
theorem Fa (w : World) (a : Addr) (n : Nat) (p : Addr) : (w.freeze a n).cell? p = w.cell? p := by
 unfold World.freeze
 split
 ·rfl
 ·unfold World.cell?
  simp only [Array.getElem?_modify]
  by_cases e : a.block = p.block
  ·rw [if_pos e]
   cases hh : w.heap[p.block]? with
   | none => rfl
   | some o => cases o <;> rfl
  ·rw [if_neg e]
theorem DT (w : World) (a : Addr) (n k : Nat) (h : k ≠ a.block) : (w.freeze a n).heap[k]? = w.heap[k]? := by
 unfold World.freeze
 split
 ·rfl
 ·simp only [Array.getElem?_modify]
  rw [if_neg (Ne.symm h)]
theorem zi : ∀ l : List UInt8, flat (jf l) = l.map fun b => C.int .u8 b.toNat
 | [] => rfl
 | y :: l => by
   have ih := zi l
   unfold flat jf at ih ⊢
   simp only [List.map_cons, List.flatten_cons, List.singleton_append]
   rw [ih]
theorem Jh {M : Mem} {q : Nat} (hw : WFm M) (hq : (M q).isSome = true) : WFm (upd (eH q M) q (some .gone)) := by
 have liv : ∀ i, (M i).isSome = true → (upd (eH q M) q (some O.gone) i).isSome = true := fun i hi => by
  unfold upd; split
  ·rfl
  ·simpa [aL] using hi
 intro i o ho k hk
 unfold upd at ho
 split at ho
 ·cases ho; simp [O.ids] at hk
 ·have ho : (M i).map (O.kill q) = some o := ho
  cases hm : M i with
  | none => rw [hm] at ho; cases ho
  | some o0 => rw [hm] at ho; cases ho; exact liv k (hw i o0 hm k (O.dW k hk))
theorem JN {M : Mem} {j q : Nat} {u : Bool} {t : Int} {bs : List UInt8} (h : PgAt M j q u t bs) (h0 : bs ≠ []) (hlen : bs.length ≤ 140737488351232) : gU Tryz.prog 70 [.ptr j 0] M [] (.c (.str ⟨bs.toArray⟩)) (upd (eH q M) q (some .gone)) := by
 have hqs : (M q).isSome = true := by rw [h.row]; rfl
 have liv : ∀ i, (M i).isSome = true → (upd (eH q M) q (some O.gone) i).isSome = true := fun i hi => by
  unfold upd; split
  ·rfl
  ·simpa [aL] using hi
 refine ⟨enters_of Tryz.func70 (by kernel_rfl) rfl, fun i hi => by simp [A.ids] at hi, liv, fun hw => Jh hw hqs, ?_⟩
 intro w0 I0 B I w vals hm hv
 match vals, hv with
 | [v], ⟨h1, _⟩ =>
   obtain ⟨b, vs, hB, hh, hvs, hno⟩ := hm.objs j _ h.box
   obtain ⟨b', hB', rfl⟩ := h1
   obtain rfl : b = b' := by rw [hB] at hB'; cases hB'; rfl
   obtain ⟨vsq, hown, hrc, hlx, hiff⟩ := hm.objs q _ h.row
   have hbl : (jf bs).length = bs.length := by unfold jf; rw [List.length_map]
   rw [hbl] at hown hiff
   match vs, hvs with
   | [x0, x1, x2], ⟨_, ⟨hx1, _⟩, _, _⟩ =>
     have hx1 : x1 = B q := hx1.1
     have hl0 : bs.length ≠ 0 := by simpa using h0
     rcases hown.2 with ⟨-, hz⟩ | ⟨g, cap, cur, hBq, hbg, hg, hnc, hcm, hcs, htake⟩
     ·exact absurd hz hl0
     ·rw [hBq] at hx1
      subst hx1
      have hcell : ∀ i x, bs[i]? = some x → w.cell? ((⟨g, 0, none⟩ : Addr).add i) = some (.int .u8 x.toNat) := by
       intro i x hx
       have hfl := zi bs
       rw [hfl] at hrc
       obtain ⟨v, hv1, hv2⟩ := hrc.at i (C.int .u8 x.toNat) (by simp [hx])
       rw [hBq] at hown
       have := hown.cells (g := g) rfl i v hv1
       rw [this, hv2.toInt.1]
      refine (Gt b g cap x0 x2 cur bs w h0 hh hg hnc hcm (by simpa using hcs) hcell).mono ?_
      rintro e w' ⟨rfl, rfl⟩
      have hE : Ext w (w.drew.freeze ⟨g, 0, none⟩ bs.length) I I := ⟨fun _ _ k => k, fun b o _ => by rw [Fa]; rfl⟩
      have hfoot : ∀ k, foot B q (xZ bs) k ↔ k = g := fun k => by
       show (B q).ownBlock = some k ↔ _
       rw [hBq]; simp [Value.ownBlock, eq_comm]
      have hr := hm.BM (id := q) (v' := B q) (o' := .gone) (w' := w.drew.freeze ⟨g, 0, none⟩ bs.length) (I' := I) h.row LJ LJ LJ (by unfold World.freeze; split; exact Nat.le_refl _; show w.heap.size ≤ (Array.modify w.drew.heap _ _).size; rw [Array.size_modify]; exact Nat.le_refl _) (fun b hb hnf => by
       rw [DT _ _ _ _ (fun e => hnf ((hfoot b).2 e))]; rfl) (fun k hk => hk.elim) hE (fun _ _ k => .inl k) trivial (fun i hi => by simp [O.ids] at hi)
      have hBB : upd B q (B q) = B := wX B rfl
      rw [hBB] at hr
      exact ⟨_, B, I, rfl, hr, hE, fun _ _ _ => rfl, .str (by show bs.toArray.size ≤ kF; unfold kF; simpa using hlen)⟩
end V
end Go.Proofs.YthhpcjoaogmhbaaGreatDoor
end
section
namespace Go.Proofs.YthhpcjoaogmhbaaGreatDoor
namespace V
open Go.RowKit
theorem Q6 {M : Mem} {j q : Nat} {u : Bool} {t : Int} {bs : List UInt8} (h : PgAt M j q u t bs) : gU Tryz.prog 69 [.ptr j 0] M [] (.c (.int .i64 bs.length)) M := by
 have hjs : (M j).isSome = true := by rw [h.box]; rfl
 have hbx := h.box
 have hrw := h.row
 have hcb : (jf bs).length = bs.length := by unfold jf; rw [List.length_map]
 unfold qg at hbx
 unfold xZ at hrw
 refine (oZ ah [] Tryz.func69 (by kernel_rfl) rfl rfl (by rfl) (by rfl) ?ids ?res ?sub ?wfm (fun hWF Rr hkeep => ?_))
 case ids => intro a ha i hi; simp at ha; subst ha; simp [A.ids] at hi; subst hi; exact hjs
 case res => intro i hi; simp [A.ids] at hi
 case sub => exact fun i hi => hi
 case wfm => exact fun hw => hw
 repeat (first | refine W.q ?_ | refine W.g ?_ (by simp only [exb, simprocAttr, hbx, hrw, hcb]; rfl))
 refine W.ret ⟨.inr rfl, by rfl, ?_, ?mle⟩
 simp only [Tryz.f69, resE, aD, fin, toT, exb, simprocAttr]
 case mle => exact aC _
def vo (M : Mem) (q : Nat) (bs : List UInt8) : Mem := if 8192 < bs.length then M else upd (eH q M) q (some .gone)
def uO (bs : List UInt8) : A := if 8192 < bs.length then .tupA [.c (.str ⟨#[]⟩), .c (.int .i64 2)] else .tupA [.c (.str ⟨bs.toArray⟩), .c (.int .i64 0)]
theorem Pg {M : Mem} {j q : Nat} {u : Bool} {t : Int} {bs : List UInt8} (h : PgAt M j q u t bs) (h0 : bs ≠ []) (hlen : bs.length ≤ 140737488351232) : gU Tryz.prog 32 [.ptr j 0] M [] (uO bs) (vo M q bs) := by
 have hjs : (M j).isSome = true := by rw [h.box]; rfl
 have hqs : (M q).isSome = true := by rw [h.row]; rfl
 refine (oZ ah [] Tryz.func32 (by kernel_rfl) rfl rfl (by rfl) (by rfl) ?ids ?res ?sub ?wfm (fun hWF Rr hkeep => ?_))
 case ids => intro a ha i hi; simp at ha; subst ha; simp [A.ids] at hi; subst hi; exact hjs
 case res => intro i hi; unfold uO at hi; split at hi <;> simp [A.ids, A1.ids] at hi
 case sub =>
  intro i hi
  unfold vo
  split
  ·exact hi
  ·unfold upd; split
   ·rfl
   ·simpa [aL] using hi
 case wfm => intro hw; unfold vo; split; exact hw; exact Jh hw hqs
 refine W.go ?_
 refine W.bl ?_
 refine W.ak ah 0 (by decide) ?_
 refine xs0 3 ?_
 refine aJ (D := []) rfl rfl rfl rfl rfl (fun j hj => by simp at hj) (by simp) cw1 (Q6 h) ?_
 simp only [bQ, dw, iO]
 refine xe0 ?_
 refine W.bl ?_
 refine W.cond rfl ?_ ?_
 ·intro hc
  have hc : 8192 < bs.length := by have := of_decide_eq_true hc; omega
  refine W.go ?_
  refine W.ret ⟨.inr rfl, by rfl, ?_, ?mle⟩
  simp only [Tryz.f32, resE, aD, fin, toT, exb, simprocAttr]
  ·simp only [uO, if_pos hc]
  case mle => unfold vo; rw [if_pos hc]; exact aC _
 ·intro hc
  have hc : ¬ 8192 < bs.length := by have := of_decide_eq_false hc; omega
  refine W.bl ?_
  refine W.ak ah 0 (by decide) ?_
  refine xs0 3 ?_
  refine aJ (D := []) rfl rfl rfl rfl rfl (fun j hj => by simp at hj) (by simp) cw1 (JN h h0 hlen) ?_
  simp only [bQ, dw, iO]
  refine xe0 ?_
  refine W.bl ?_
  refine W.ret ⟨.inr rfl, by rfl, ?_, ?mle⟩
  simp only [Tryz.f32, resE, aD, fin, toT, exb, simprocAttr]
  ·simp only [uO, if_neg hc]
  case mle => unfold vo; rw [if_neg hc]; exact aC _
def xW (x : Expr) : ByteArray × Int := if cK x then (if 8192 < (bR x 1).length then (⟨#[]⟩, 2) else (⟨(bR x 1).toArray⟩, 0)) else (⟨#[]⟩, 30)
theorem Ra (u : Nat) : Lib.decDigits u ≠ [] := by
 unfold Lib.decDigits
 split <;> simp
theorem PO (n : Int) : Lib.itoa n ≠ [] := by
 unfold Lib.itoa
 split
 ·simp
 ·exact Ra _
theorem MB {x : Expr} (hx : cK x = true) : dZ x ≠ [] := by
 obtain ⟨k, n, nm, kids⟩ := x
 rw [vY] at hx
 obtain ⟨htop, -⟩ := Bool.and_eq_true_iff.1 hx
 rw [kU] at htop
 simp only [Bool.and_eq_true, decide_eq_true_eq] at htop
 obtain ⟨⟨⟨⟨⟨hkk, hlo⟩, hhi⟩, hn0⟩, hn1⟩, hnm⟩ := htop
 rw [ig]
 dsimp only
 unfold sM
 by_cases e1 : k = 1
 ·rw [if_pos e1]; exact PO n
 rw [if_neg e1]
 by_cases e4 : k = 4
 ·subst e4
  rw [if_neg (by decide), if_neg (by decide), if_pos rfl]
  have hnm : bK nm = true := hnm
  intro e
  rw [bK, e] at hnm
  simp at hnm
 by_cases e2 : k = 2
 ·rw [if_pos e2]; simp
 rw [if_neg e2]
 by_cases e3 : k = 3
 ·rw [if_pos e3]; simp
 rw [if_neg e3, if_neg e4]
 by_cases e5 : k = 5
 ·rw [if_pos e5]; simp
 rw [if_neg e5]
 by_cases e6 : k = 6
 ·rw [if_pos e6]; simp
 rw [if_neg e6]
 by_cases e7 : k = 7
 ·rw [if_pos e7]; simp
 rw [if_neg e7]
 by_cases e8 : k = 8
 ·rw [if_pos e8]; simp
 rw [if_neg e8]
 by_cases e9 : k = 9
 ·rw [if_pos e9]; simp
 rw [if_neg e9]
 by_cases e10 : k = 10
 ·rw [if_pos e10]; simp
 rw [if_neg e10]
 by_cases e11 : k = 11
 ·rw [if_pos e11]; simp
 rw [if_neg e11]
 by_cases e12 : k = 12
 ·rw [if_pos e12]; simp
 rw [if_neg e12]
 have hkr : 1 ≤ k ∧ k ≤ 18 := by
  by_cases hk : 1 ≤ k ∧ k ≤ 18
  ·exact hk
  ·unfold shapeOf at hkk; rw [if_neg hk] at hkk; cases hkk
 have : k = 13 ∨ k = 14 ∨ k = 15 ∨ k = 16 ∨ k = 17 ∨ k = 18 := by omega
 rcases this with rfl | rfl | rfl | rfl | rfl | rfl <;> simp [shapeOf, shapes]
theorem K5 {x : Expr} (hx : cK x = true) (want : Int) : bR x want ≠ [] := by
 rw [uL]
 split
 ·simp
 ·exact MB hx
theorem L9 (x : Expr) (hs : cK x = true → (bR x 1).length ≤ 140737488351232) (m : Mem) : COk Tryz.prog 14 [.agg (cExpr x)] m (.tup [(false, [.str (xW x).1]), (false, [.int .i64 (xW x).2])]) := by
 refine (cB ah Tryz.func14 (by kernel_rfl) rfl rfl (by rfl) (by rfl) (by rfl) (fun R hkeep => ?_) m)
 obtain ⟨k, n, nm, kids⟩ := x
 repeat (first | refine W.q ?_ | refine W.g ?_ Qo)
 refine W.ak ah 0 (by decide) ?_
 refine aj 1 Qo ?_
 refine au rfl rfl rfl rfl rfl (by simp) cw1 (O5 ⟨k, n, nm, kids⟩ _) ?_
 refine xe0 ?_
 refine W.go ?_
 refine W.cond rfl ?_ ?_
 ·intro hb
  have hb : cK ⟨k, n, nm, kids⟩ = false := by simpa using hb
  refine W.go ?_
  refine W.rt ?_
  simp only [Tryz.f14, bE, aD, toT, fin, exb, simprocAttr]
  simp [xW, hb]
 ·intro hb
  have hb : cK ⟨k, n, nm, kids⟩ = true := by simpa using hb
  have hs := hs hb
  refine W.go ?_
  refine W.oO true 9 1 20 5 1 (tyb := 74) (cells := [A.nilv (.pointer none), .nil, .c (.int .i64 0)]) rfl rfl rfl ?_
  obtain ⟨M, hM⟩ : ∃ M, M = upd (upd (upd (upd Mem.nil 1 (some (.box 29 [.c (.int .i64 k), .c (.int .i64 n), .c (.str nm), .c (.sl (fB kids))]))) 9 (some (.box 74 [.nilv (.pointer none), .nil, .c (.int .i64 0)]))) 20 (some (jd true 5 1 []))) 9 (some (.box 74 ([A.nilv (.pointer none), .nil, .c (.int .i64 0)].set 1 (.own 20)))) := ⟨_, rfl⟩
  rw [← hM]
  have hp : PgAt M 9 20 false 0 [] := by
   rw [hM]
   refine ⟨rfl, rfl, by decide, fun i o ho hi => ?_⟩
   rw [upd_ne _ _ hi] at ho
   by_cases e1 : i = 20
   ·subst e1; rw [upd_same] at ho; cases ho; rfl
   rw [upd_ne _ _ e1, upd_ne _ _ hi] at ho
   by_cases e2 : i = 1
   ·subst e2; rw [upd_same] at ho; cases ho; rfl
   ·rw [upd_ne _ _ e2] at ho; cases ho
  have hf : ∀ d, M (30 + d) = none := fun d => by
   rw [hM, upd_ne _ _ (by omega), upd_ne _ _ (by omega), upd_ne _ _ (by omega), upd_ne _ _ (by omega)]; rfl
  have hM1 : M 1 = some (.box 29 [.c (.int .i64 k), .c (.int .i64 n), .c (.str nm), .c (.sl (fB kids))]) := by rw [hM]; rfl
  clear hM
  have hw := Oi _ ⟨k, n, nm, kids⟩ (Nat.le_refl _) hb M 9 20 false 0 [] 30 1 hp hf (by simp; omega)
  rw [List.nil_append] at hw
  refine W.ak ah 0 (by decide) ?_
  refine aj 2 (by simp only [exb, simprocAttr, hM1]; rfl) ?_
  refine aJ (D := [20]) rfl rfl rfl rfl rfl (fun i hi => by rw [hkeep]; exact id) (by simp) cw3 hw ?_
  simp only [bQ, dw]
  refine xe0 ?_
  have hd := Pg (hp.pgM (u' := true) (t' := 0) (bs' := bR ⟨k, n, nm, kids⟩ 1)) (K5 hb 1) hs
  refine W.bl ?_
  refine W.ak ah 0 (by decide) ?_
  refine aj 1 (by simp only [exb, simprocAttr, aM, A.kill, Nat.reduceEqDiff, reduceIte]; rfl) ?_
  refine aJ (D := []) rfl rfl rfl rfl rfl (fun j hj => by simp at hj) (by simp) cw1 hd ?_
  simp only [bQ, dw]
  unfold uO
  by_cases hl : 8192 < (bR ⟨k, n, nm, kids⟩ 1).length
  ·rw [if_pos hl]
   refine xe0 ?_
   refine W.go ?_
   refine W.rt ?_
   simp only [Tryz.f14, bE, aD, toT, fin, exb, simprocAttr]
   simp [xW, hb, hl]
  ·rw [if_neg hl]
   refine xe0 ?_
   refine W.go ?_
   refine W.rt ?_
   simp only [Tryz.f14, bE, aD, toT, fin, exb, simprocAttr]
   simp [xW, hb, hl]
def IV (p : Program) (inn : ByteArray) (env : List Slot) (x : Expr) : ByteArray × Int :=
 if cu (ji p) p.classes = 0 then (if cK x = true then (match jP p.classes inn env x with | some t => (t, 0) | none => (⟨#[]⟩, 70)) else (⟨#[]⟩, 70)) else (⟨#[]⟩, cu (ji p) p.classes)
mutual
theorem Iu : ∀ x : Expr, cK x = true → yj x
 | ⟨k, n, nm, kids⟩, h => by
   simp only [cK, Bool.and_eq_true] at h
   obtain ⟨htop, hk⟩ := h
   rw [kU] at htop
   simp only [Bool.and_eq_true, decide_eq_true_eq] at htop
   obtain ⟨⟨⟨⟨⟨-, hlo⟩, hhi⟩, -⟩, -⟩, -⟩ := htop
   simp only [yj]
   refine ⟨fun e => ?_, fun e => ?_, fun e => ?_, ?_, Ey kids hk⟩
   ·subst e
    have h1 : (1 : Int) ≤ (kids.length : Int) := hlo
    have h2 : (kids.length : Int) ≤ 1 := hhi
    omega
   ·subst e
    have h1 : (1 : Int) ≤ (kids.length : Int) := hlo
    omega
   ·subst e
    have h1 : (2 : Int) ≤ (kids.length : Int) := hlo
    have h2 : (kids.length : Int) ≤ 2 := hhi
    omega
   ·have h5 : (shapeOf k).1.most ≤ 5 := yw (p := fun s => s.most ≤ 5) (by decide) (fun s hs => by revert s; decide) k
    have : (kids.length : Int) ≤ 5 := Int.le_trans hhi h5
    omega
theorem Ey : ∀ l : List Expr, og l = true → kV l
 | [], _ => by simp only [kV]
 | x :: l, h => by
   simp only [og, Bool.and_eq_true] at h
   simp only [kV]
   exact ⟨Iu x h.1, Ey l h.2⟩
end
set_option maxHeartbeats 8000000 in
theorem OC (p : Program) (inn : ByteArray) (env : List Slot) (x : Expr) (hS : gN p.classes) (hB : mZ p.classes) (hlen : p.classes.length ≤ 1048576) (henv : env.length ≤ 1000000000) (hs : cK x = true → (bR x 1).length ≤ 140737488351232) (m : Mem) :
 COk Tryz.prog 7 [.agg (dz p), .c (.str inn), .c (.sl (env.map bC)), .agg (cExpr x)] m (.tup [(false, [.str (IV p inn env x).1]), (false, [.int .i64 (IV p inn env x).2])]) := by
 have hcp : dz p = [.sl (p.classes.map ay), .sl (bJ p.main)] := rfl
 have hchk := KX p hS hlen
 have hR : IV p inn env x = if cu (ji p) p.classes = 0 then (if cK x = true then (match jP p.classes inn env x with | some t => (t, 0) | none => (⟨#[]⟩, 70)) else (⟨#[]⟩, 70)) else (⟨#[]⟩, cu (ji p) p.classes) := rfl
 have hsx := L9 x hs
 have hk := Iu x
 rw [hR]
 clear hR
 obtain ⟨E, hE⟩ : ∃ E, cu (ji p) p.classes = E := ⟨_, rfl⟩
 rw [hE] at hchk ⊢
 have htyp : E = 0 → cK x = true → ∀ m, TOk Tryz.prog 16 [.rptr (ckC p.classes p.main inn ⟨#[]⟩ env), .agg (cExpr x)] m dJ ((jP p.classes inn env x).map fun t => .c (.str t)) := fun h0 hb m => by
  subst h0
  have h16 : p.classes.length ≤ 16 := by
   unfold cu at hE
   split at hE
   ·split at hE
    ·cases hE
    ·omega
   ·rename_i h1; exact absurd hE h1
  exact EH p inn ⟨#[]⟩ env hS hB h16 henv hchk _ x (Nat.le_refl _) (hk hb) m
 obtain ⟨xk, xn, xm, xs⟩ := x
 refine FB ah Tryz.func7 (by kernel_rfl) rfl rfl (by rfl) (by rfl) (by rfl) (fun R hkeep => ?_) m
 repeat (first | refine W.q ?_ | refine W.g ?_ (by simp only [exb, simprocAttr, hcp, cExpr]; rfl))
 refine W.bl ?_
 refine W.ak ah 0 (by decide) ?_
 refine aj 1 Iy ?_
 refine au rfl rfl rfl rfl rfl (by simp) cw1 (hchk _) ?_
 refine xe0 ?_
 refine W.go ?_
 refine W.cond rfl ?_ ?_
 ·intro h
  have he : E ≠ 0 := by simpa using h
  rw [if_neg he]
  refine W.go ?_
  refine W.ret (.inl ⟨.inr rfl, by rfl, ?_⟩)
  simp only [Tryz.f7, bE, aD, toT, fin, exb, simprocAttr]
 intro h
 obtain rfl : E = 0 := by simpa using h
 rw [if_pos rfl]
 have htyp := htyp rfl
 refine W.bl ?_
 refine W.EZ (j := 9) rfl rfl rfl rfl rfl (by rfl) (fun v => ?_)
 have hbad : ∀ (s : Nat → A) (mm : Mem), s 8 = .c (.str ⟨#[]⟩) → s 9 = .ptr 9 0 → bE tab ⟨s, upd mm 9 (some (.box 31 [.c (.int .i64 70)]))⟩ [.tmp 8, .cell 9 31] = some (.tup [(false, [.str ⟨#[]⟩]), (false, [.int .i64 70])]) := by
  intro s mm h1 h2
  simp only [bE, aD, h1, h2, upd_same]
  rfl
 simp only [cExpr] at hsx htyp
 obtain ⟨sx, hsx0⟩ : ∃ sx, xW ⟨xk, xn, xm, xs⟩ = sx := ⟨_, rfl⟩
 rw [hsx0] at hsx
 refine W.bl ?_
 refine W.ak ah 0 (by decide) ?_
 refine aj 1 uI ?_
 refine au rfl rfl rfl rfl rfl (by simp) cw1 (hsx _) ?_
 refine aA uI ?_
 cases hb : cK ⟨xk, xn, xm, xs⟩ with
 | false =>
   have h30 : sx.2 = 30 := by rw [← hsx0]; simp [xW, hb]
   rw [h30]
   rw [if_neg (by decide)]
   refine W.bl ?_
   refine W.iZ (base := 0) (ch := dJ) ah 2 (by decide) rfl ?_
   refine aA uI ?_
   exact ⟨_, (dS rfl rfl rfl rfl (by simp) cw1 (eG _)), .inr ⟨v, 9, by rfl, by rfl, .inr ⟨rfl, _, 0, by rfl, hbad _ _ OT OT⟩⟩⟩
 | true =>
   have h30 : decide (sx.2 = 30) = false := by
    rw [← hsx0]
    simp only [xW, hb, if_true, decide_eq_false_iff_not]
    split <;> simp
   have htyp := htyp hb
   rw [if_pos rfl]
   refine W.bl ?_
   refine W.ak ah 0 (by decide) ?_
   refine aj 2 (by simp only [exb, simprocAttr, DID, h30, Bool.not_false]; rfl) ?_
   refine au rfl rfl rfl rfl rfl (by simp) cw1 (dI _) ?_
   refine aA uI ?_
   cases ht : jP p.classes inn env ⟨xk, xn, xm, xs⟩ with
   | none =>
     rw [ht] at htyp
     refine W.bl ?_
     refine W.iZ (base := 0) (ch := dJ) ah 6 (by decide) rfl ?_
     refine aA Qm ?_
     exact ⟨_, (iY rfl rfl rfl rfl qh (aB (bX rfl rfl) (aB aV bf)) htyp), .inr ⟨v, 9, by rfl, by rfl, .inr ⟨rfl, _, 0, by rfl, hbad _ _ OT OT⟩⟩⟩
   | some tt =>
     rw [ht] at htyp
     have htyp : ∀ m, COk Tryz.prog 16 [.rptr (ckC p.classes p.main inn ⟨#[]⟩ env), .agg [.int .i64 xk, .int .i64 xn, .str xm, .sl (fB xs)]] m (.c (.str tt)) := htyp
     refine W.bl ?_
     refine W.ak ah 0 (by decide) ?_
     refine aj 6 Qm ?_
     refine bg rfl rfl rfl rfl rfl (by simp) (aB (bX rfl rfl) (aB aV bf)) (by rfl) (by rfl) htyp ?_
     refine aA uI ?_
     refine W.ret (.inr ⟨v, 9, by rfl, by rfl, .inl ⟨.inr rfl, ?_⟩⟩)
     simp only [Tryz.f7, bE, aD, toT, fin, DID, exb, simprocAttr]
mutual
def Nb : Expr → Bool
 | ⟨k, _, _, kids⟩ => Df kids || decide (k = 3)
def Df : List Expr → Bool
 | [] => false
 | x :: l => Nb x || Df l
end
theorem KW {cs : List Class} {a b : ByteArray} {env : List Slot} {k : Int} {nm : ByteArray} (hk : k ≠ 3) (ls : List ByteArray) : bN cs a env k nm ls = bN cs b env k nm ls := by
 unfold bN
 rw [if_neg hk, if_neg hk]
mutual
theorem Lf {cs : List Class} {a b : ByteArray} {env : List Slot} : ∀ x : Expr, Nb x = false → jP cs a env x = jP cs b env x
 | ⟨k, n, nm, kids⟩, h => by
   simp only [Nb, Bool.or_eq_false_iff, decide_eq_false_iff_not] at h
   simp only [jP]
   rw [BL kids h.1]
   congr 1
   funext ls
   exact KW h.2 ls
theorem BL {cs : List Class} {a b : ByteArray} {env : List Slot} : ∀ l : List Expr, Df l = false → eP cs a env l = eP cs b env l
 | [], _ => by simp only [eP]
 | x :: l, h => by
   simp only [Df, Bool.or_eq_false_iff] at h
   simp only [eP]
   rw [Lf x h.1, BL l h.2]
end
theorem MH {cs : List Class} {inn : ByteArray} {e1 e2 : List Slot} {k : Int} {nm : ByteArray} (he : ∀ n, jF e1 n = jF e2 n) (ls : List ByteArray) : bN cs inn e1 k nm ls = bN cs inn e2 k nm ls := by
 unfold bN
 rw [he]
mutual
theorem Nt {cs : List Class} {inn : ByteArray} {e1 e2 : List Slot} (he : ∀ n, jF e1 n = jF e2 n) : ∀ x : Expr, jP cs inn e1 x = jP cs inn e2 x
 | ⟨k, n, nm, kids⟩ => by
   simp only [jP]
   rw [CG he kids]
   congr 1
   funext ls
   exact MH he ls
theorem CG {cs : List Class} {inn : ByteArray} {e1 e2 : List Slot} (he : ∀ n, jF e1 n = jF e2 n) : ∀ l : List Expr, eP cs inn e1 l = eP cs inn e2 l
 | [] => by simp only [eP]
 | x :: l => by
   simp only [eP]
   rw [Nt he x, CG he l]
end
def Bn : Program := ⟨[⟨⟨#[65]⟩, ⟨#[]⟩, [⟨⟨#[105, 110, 116]⟩, ⟨#[102]⟩⟩], []⟩, ⟨⟨#[66]⟩, ⟨#[65]⟩, [], []⟩], []⟩
def OY : Expr := ⟨7, 0, ⟨#[102]⟩, [⟨4, 0, ⟨#[120]⟩, []⟩]⟩
def QL : List Slot := [⟨⟨#[65]⟩, ⟨#[120]⟩⟩]
theorem Rt (m : Mem) : COk Tryz.prog 11 [] m (.agg (dz Bn)) := by
 refine (cB ah Tryz.func11 (by kernel_rfl) rfl rfl (by rfl) (by rfl) (by rfl) (fun R hkeep => ?_) m)
 refine W.go ?_
 refine W.rt ?_
 simp only [Tryz.f11, bE, aD, toT, fin, exb, simprocAttr]
 simp [dz, Bn, ay, bC, aS, bJ]
theorem MQ : IV Bn ⟨#[]⟩ QL OY = (⟨#[105, 110, 116]⟩, 0) := by decide +kernel
theorem Jy : gN Bn.classes := by
 intro c hc
 simp only [Bn, List.mem_cons, List.not_mem_nil, or_false] at hc
 rcases hc with rfl | rfl <;> simp
theorem Gs : mZ Bn.classes := by
 intro c hc
 simp only [Bn, List.mem_cons, List.not_mem_nil, or_false] at hc
 rcases hc with rfl | rfl <;> simp
theorem O8 : (bR OY 1).length ≤ 140737488351232 := by decide +kernel
theorem Ot (m : Mem) : COk Tryz.prog 6 [] m (.c (.bool true)) := by
 have h1 := OC Bn ⟨#[]⟩ QL OY Jy Gs (by decide) (by decide) (fun _ => O8)
 rw [MQ] at h1
 simp only [Bn, OY, QL, dz, bJ, ay, cExpr, fB, bC, List.map_cons, List.map_nil] at h1
 have h2 := Rt
 simp only [Bn, dz, bJ, ay, bC, List.map_cons, List.map_nil] at h2
 refine (cB ah Tryz.func6 (by kernel_rfl) rfl rfl (by rfl) (by rfl) (by rfl) (fun R hkeep => ?_) m)
 refine W.go ?_
 refine W.ak ah 0 (by decide) ?_
 refine xs0 0 ?_
 refine au rfl rfl rfl rfl rfl (by simp) iR (h2 _) ?_
 refine xs0 5 ?_
 refine au rfl rfl rfl rfl rfl (by simp) cw4 (h1 _) ?_
 refine xe0 ?_
 refine W.go ?_
 refine W.rt ?_;simp only [Tryz.f6, bE, aD, toT, fin, exb, simprocAttr]
theorem rF (skip : Int) : ∀ {l : List Method} {i : Nat} {m : Method}, m ∈ iy skip i l → ∃ m0 ∈ l, m = m0 ∨ m = fO m0
 | [], _, m, h => by cases h
 | x :: l, i, m, h => by
   simp only [iy, List.mem_cons] at h
   rcases h with rfl | h
   ·refine ⟨x, by simp, ?_⟩
    split
    ·exact .inl rfl
    ·exact .inr rfl
   ·obtain ⟨m0, h1, h2⟩ := rF skip h
    exact ⟨m0, by simp [h1], h2⟩
theorem ru (skip : Int) : ∀ {l : List Class} {i : Nat} {c : Class}, c ∈ iU skip i l → ∃ c0 ∈ l, ∃ j, c = { c0 with methods := iy skip j c0.methods }
 | [], _, c, h => by cases h
 | x :: l, i, c, h => by
   simp only [iU, List.mem_cons] at h
   rcases h with rfl | h
   ·exact ⟨x, by simp, i, rfl⟩
   ·obtain ⟨c0, h1, h2⟩ := ru skip h
    exact ⟨c0, by simp [h1], h2⟩
theorem qF (N : Nat) : gK N [] := by simp only [gK]
theorem FE {p : Program} (hS : gN p.classes) (skip : Int) : gN (jr p skip).classes := fun c hc => by
 obtain ⟨c0, h1, j, rfl⟩ := ru skip hc
 obtain ⟨q1, q2, q3⟩ := hS c0 h1
 refine ⟨q1, by dsimp only; rw [wP]; exact q2, fun m hm => ?_⟩
 obtain ⟨m0, r1, rfl | rfl⟩ := rF skip hm
 ·exact q3 _ r1
 ·exact q3 m0 r1
theorem Ed {p : Program} (hB : mZ p.classes) (skip : Int) : mZ (jr p skip).classes := fun c hc m hm => by
 obtain ⟨c0, h1, j, rfl⟩ := ru skip hc
 obtain ⟨m0, r1, rfl | rfl⟩ := rF skip hm
 ·exact hB c0 h1 _ r1
 ·exact ⟨by simp [fO], qF _⟩
theorem EM {p : Program} (hP : SmallP p) (skip : Int) : SmallP (jr p skip) where
 main := by
  unfold jr
  dsimp only
  split
  ·exact hP.main
  ·exact ⟨by simp, qF _, by simp [jN]⟩
 meth := fun c hc m hm => by
  obtain ⟨c0, h1, j, rfl⟩ := ru skip hc
  obtain ⟨m0, r1, rfl | rfl⟩ := rF skip hm
  ·exact hP.meth c0 h1 _ r1
  ·exact ⟨by simp [fO], qF _, by simp [fO, jN]⟩
theorem FX : ∀ (cs : List Class), gN cs → gG cs ≤ cs.length * 1048576
 | [], _ => by simp [gG]
 | c :: cs, h => by
   have ih := FX cs (fun c hc => h c (by simp [hc]))
   have := (h c (by simp)).2.1
   rw [zx, List.length_cons]
   omega
theorem Hu (p : Program) (hS : gN p.classes) (hB : mZ p.classes) (hP : SmallP p) (hlen : p.classes.length ≤ 1048576) (m : Mem) : COk Tryz.prog 5 [.agg (dz p)] m (.c (.bool true)) :=
 GN p hlen (Nat.le_trans (FX _ hS) (by omega)) (fun c hc => (hS c hc).2.1) Ot (J5 p hS hlen) (BJ p hS hB hP hlen)
  (fun _ skip m => BJ _ (FE hS skip) (Ed hB skip) (EM hP skip) (by unfold jr; dsimp only; rw [xC]; exact hlen) m) m
end V
end Go.Proofs.YthhpcjoaogmhbaaGreatDoor
end
section
namespace Go.Proofs.YthhpcjoaogmhbaaGreatDoor
open Go.ChangeShapes Go.WideShapes Go.ChangeAt Go.RowKit
open Go.ChangeMaps (open_string shut_string)
open V
theorem Bq (os : Os) : laidMet Tryz.prog Rows.checkEachUptoRow.laid ((wm os).forCall (fun _ _ => 0) ⟨#[], #[.agg #[.slice none 0 0, .slice none 0 0]], []⟩).memory :=
 laidMet_of_run' 8 (by kernel_rfl) (by kernel_rfl)
theorem yF (os : Os) {H : Type} (enc : TypeId × Value → H) : ∃ places, DataW.whole enc Tryz.prog ((wm os).forCall (fun _ _ => 0) ⟨#[], #[.agg #[.slice none 0 0, .slice none 0 0]], []⟩).memory Tryz.f5.params.toList Rows.checkEachSpec.vars false (#[.agg #[.slice none 0 0, .slice none 0 0]] : Array Value).toList 8 = some ([.agg [.nil, .nil]], [], places) :=
 ⟨[], by kernel_rfl⟩
set_option maxRecDepth 100000 in
set_option maxHeartbeats 4000000 in
theorem wE (os : Os) (started : os.Started) (H : Type) (enc : TypeId × Value → H) (F : Stop.Interp) :
 ReturnsInHanded {} Tryz.checked os 5 .any ((Rows.OpenSpec.upto Rows.checkEachSpec).preRow enc Tryz.prog Tryz.f5 Rows.checkEachUptoRow.domain false Rows.checkEachUptoRow.laid) (((Rows.OpenSpec.upto Rows.checkEachSpec).at F).post enc Tryz.prog Tryz.f5 false true false false) := by
 obtain ⟨places, hx⟩ := yF os enc
 refine returnsInHanded_of_row (C := Tryz.checked) (s := Rows.OpenSpec.upto Rows.checkEachSpec) own started (by kernel_rfl) Tryz.func5
  (witness_row_at (enc := enc) (C := Tryz.checked) false (wm os) #[.agg #[.slice none 0 0, .slice none 0 0]] rfl (by kernel_rfl) (by kernel_rfl) (by kernel_rfl)
    (OpenSpec.preRow_of_cond 8 hx (by kernel_rfl) (fun k hk => by cases hk; rfl) (by kernel_rfl) (Bq os))) ?_
 intro W base args ds gs before hval0 hW _ hcond hsz0 hL hsh _
 have hbulk : Rows.uptoBulkAll (ds ++ gs) ≤ 1048576 := of_decide_eq_true (hcond _ rfl)
 clear hcond
 have hval : ∀ (j : Nat) t v, Tryz.f5.params[j]? = some t → args[j]? = some v → Value.okWide Tryz.prog W .any base t v := hval0
 have hW' := hW
 obtain ⟨p, q, hA0, hV, rfl, hfz, hnd⟩ := hW
 have hA : DataW.TrodAll enc Tryz.prog W 0 (fun _ => true) true Tryz.f5.params.toList args.toList ds p := hA0
 have hsz : ∀ n ∈ DataW.weightsEach Tryz.prog (Tryz.f5.params.toList ++ Rows.checkEachSpec.plain.varTypes Tryz.prog) (ds ++ gs), n ≤ reachBytes := fun n hn => of_decide_eq_true (List.all_eq_true.1 hsz0 n hn)
 rw [Tryz.params5] at hA hval hsz
 clear hsz0
 obtain ⟨v0, vs0, d0, ds0, p0, q0, hargs, rfl, rfl, h0, r0⟩ := trodAll_cons hA
 obtain ⟨rfl, rfl, rfl⟩ := trodAll_nil r0
 obtain rfl : args = #[v0] := by cases args; simp_all
 obtain ⟨rfl, rfl⟩ := trodVars_none hV
 clear hA0 hval0
 simp only [List.append_nil] at hW'
 have k0 := h0
 have lt0 : ∀ x ∈ p0, x.block < W.heap.size := by obtain ⟨m, hm⟩ := k0; exact DataW.trod_lt m _ _ _ hm
 have fit0 : Fits Tryz.prog 25 d0 := fun n hn => hsz n (DataW.weights_mem_each (j := 0) rfl rfl n hn)
 have hG : GlobOk W := ⟨cell_of_shapedOpen_int (zero := #[.int .i64 0]) (t := 3) hsh (of_decide_eq_true (by kernel_rfl)) (by kernel_rfl) rfl (by kernel_rfl) (by kernel_rfl) Tryz.underlying3, OH hL⟩
 obtain ⟨cs0, rfl, -⟩ := okWide_struct Tryz.underlying25 (hval 0 25 v0 rfl rfl)
 obtain ⟨e0, g0, w0⟩ := Di fit0 h0 ⟨cs0, rfl⟩
 obtain ⟨n0, hn0⟩ := h0
 obtain ⟨hlen, hS⟩ := Nl (cs := cs0.toList) (N := 1048576) (x := (d0, p0)) (by simpa using w0) hn0 (Nat.le_trans (oH (by simp)) hbulk)
 have hBo := JF (cs := cs0.toList) (x := (d0, p0)) (by simpa using w0) hn0 (Nat.le_trans (oH (by simp)) hbulk)
 have hP := KF (cs := cs0.toList) (x := (d0, p0)) (by simpa using w0) hn0 (Nat.le_trans (oH (by simp)) hbulk)
 refine (MF (vals := [_]) (Hu g0 hS hBo hP hlen _) hG (fun B => ⟨O1 w0, trivial⟩)).mono fun e W' ⟨he, bel⟩ => ?_
 subst he
 exact ⟨_, rfl, _, _, _, [], _, [], hW', trodAll_mk1 (shut_bool Tryz.underlying4 _), trodAll_cons_mk (Below.trod laidOut (by kernel_rfl) (of_decide_eq_true (by kernel_rfl)) k0 bel lt0) trodAll_mk0, rfl, bel.frame _, fun h => by cases h⟩
theorem yG : Rows.CheckEachUptoSaid :=
 OpenClaim.holds_of_cond 5 Tryz.f5 rfl rfl rfl rfl rfl rfl rfl ⟨rfl, rfl, rfl, rfl, rfl⟩ rfl rfl rfl rfl rfl (by kernel_rfl) Tryz.func5 (by kernel_rfl)
  (of_decide_eq_true (by kernel_rfl)) (by unfold Func.isWrapper; first | (rw [if_pos dL]; kernel_rfl) | (rw [if_neg dL]; exact ⟨rfl, rfl⟩))
  (fun os started H enc _ F => by rw [OpenClaim.pre_eq_preRow]; exact wE os started H enc F)
theorem yL (f : FuncId) (fn : Func) (hf : Tryz.pinned.checked.prog.funcNamed "mordant/mordantlaw07.CheckEach" = some f) (hfn : Tryz.pinned.checked.prog.funcs[f]? = some fn) :
 true = Tryz.pinned.checked.prog.looks [] ∧ ∀ (j : Nat) t, fn.params[j]? = some t → Tryz.pinned.checked.prog.wantsStandIn t = false := by
 obtain rfl : f = 5 := Option.some.inj ((show Tryz.prog.funcNamed "mordant/mordantlaw07.CheckEach" = some 5 by kernel_rfl).symm.trans hf) |>.symm
 obtain rfl : fn = Tryz.f5 := (Option.some.inj (Tryz.func5.symm.trans hfn)).symm
 refine ⟨by kernel_rfl, fun j t ht => ?_⟩
 have hall : Tryz.f5.params.all (fun t => !Tryz.prog.wantsStandIn t) = true := by kernel_rfl
 have := Array.all_eq_true'.1 hall t (Array.mem_of_getElem? ht)
 have h2 : Tryz.prog.wantsStandIn t = false := by simpa using this
 exact h2
theorem checkEach_card : Rows.CheckEachUptoCardSaid :=
 Claim7.holds_tied_plain_at .later [] _ _ _ _ yG (fun _ h => by cases h) (by kernel_rfl) (fun _ h => by cases h) checkEachUpto_row_tie rfl ⟨rfl, rfl⟩ (by kernel_rfl) rfl yL (by kernel_rfl)
end Go.Proofs.YthhpcjoaogmhbaaGreatDoor
end
