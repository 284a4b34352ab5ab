/- Joined by my own program, in build order: Me, FitP7, Have, RP, R1, R2, R3, R4, R5, Ch, Ac, Ad, Bulk2, Bulk7, LawAC. -/
import Derived.Test.YtgaipdillmleeaaGreatX31
import Derived.Test.YtgaipdillmleeaaGreatX30
import Derived.Test.YtgaipdillmleeaaGreatX29
set_option linter.unusedVariables false
set_option linter.unusedSimpArgs false
section
namespace Go.Proofs.YtgaipdillmleeaaGreat
namespace V
open Go.RowKit
def nT : Tab := { tab with eff := fun f => f == 35 }
theorem C7.ah : nT.Ok Tryz.prog := ⟨V.ah.ty, V.ah.zero, V.ah.elem, V.ah.off, V.ah.bool, V.ah.fields, V.ah.bytes, V.ah.nilk, V.ah.int, V.ah.map, V.ah.str, V.ah.one, V.ah.seq⟩
theorem C7.tabs : nT.ty = tab.ty ∧ nT.zero = tab.zero ∧ nT.elem = tab.elem ∧ nT.off = tab.off ∧ nT.bool = tab.bool ∧ nT.fields = tab.fields ∧ nT.bytes = tab.bytes ∧ nT.nilk = tab.nilk ∧ nT.int = tab.int ∧ nT.map = tab.map ∧ nT.str = tab.str ∧ nT.one = tab.one ∧ nT.seq = tab.seq := ⟨rfl, rfl, rfl, rfl, rfl, rfl, rfl, rfl, rfl, rfl, rfl, rfl, rfl⟩
theorem AP {P : Go.Program} {T : Tab} {kp : Nat → Prop} {base : Nat} {ops : Array Oper} {K : St → Prop} {f i : Nat} {listed : Array Bool} {st : St} {rl : List Nat} {o : Oper} {r : A} {c : Call} {x : Operand} {g : FuncId} {ids : List Nat} {args : List A} {D : List Nat} {M' : Mem} {d : Nat} (ho : ops[i]? = some o) (hd : o.dst = some d) (h : eH ops o st.s = some true) (hop : o.op = .call c) (hc : c.callee = .value x) (hbar : kind T o.op = .barrier) (hx : ev st.s x = .fn g ids) (hkp : ∀ j ∈ D, ¬ kp j) (hb : ∀ j ∈ ids, ∃ ty cells, st.m j = some (.box ty cells))
 (ha : Cvs st.m (c.args.toList.map (ev st.s) ++ ids.map (A.ptr · 0)) args) (hk : dJ P g args st.m D r M') (hr : kD P T kp base ops K f (listed.setIfInBounds i true) ⟨upd (dw D st.s) d r, M'⟩) (tl : Steps P T kp base ops K f listed st rl) : Steps P T kp base ops K f listed st (i :: rl) :=
 ⟨⟨o, _, ho, .eff (BM hkp hbar h hop hc hx hb ha hk), by rw [hd]; exact hr⟩, tl⟩
def OA (ok : Bool) : Option A := if ok = true then some (.tup []) else none
theorem Ow {l : List ByteArray} {k : Nat} {n : ByteArray} (hn : l.Nodup) (hk : l[k]? = some n) : lD (l.take k) n = false := by
 unfold lD;rw [List.any_eq_false];intro y hy he;obtain rfl := fI.1 he;obtain ⟨i, hi, h2⟩ := List.mem_take_iff_getElem.1 hy;have hlt := (List.getElem?_eq_some_iff.1 hk).1;have h3 := (List.getElem?_eq_some_iff.1 hk).2;have := List.pairwise_iff_getElem.1 hn i k (by omega) hlt (by omega);exact this (h2.trans h3.symm)
section
variable (p : Program) (inn ret : ByteArray) (hS : fu p.classes) (hB : q8 p.classes) (hlen : p.classes.length ≤ 16) (hchk : ∀ m, COk Tryz.prog 16 [.agg (bI p)] m (.c (.int .i64 0)))
include hS hB hlen hchk
set_option maxHeartbeats 4000000 in
theorem yB (params : List Slot) (body : List Stmt) (hnd : (params.map (·.name)).Nodup) (hbl : body.length ≤ 1048576) (hbs : eX 1048576 body) (hK : jF body) (hcnt : params.length + dF body ≤ 100000000) (m : Mem) :
 TOk Tryz.prog 18 [.agg (bI p), .c (.str inn), .c (.str ret), .c (.sl (params.map aJ)), .c (.sl (body.map aW))] m fU (OA (gQ p.classes inn ret params body)) := by
 have hcp : bI p = [.sl (p.classes.map au), .sl (aO p.main)] := rfl
 have hw01 : IntKind.i64.wrap (0 + 1) = 1 := rfl
 obtain ⟨r, hr⟩ : ∃ r, OA (gQ p.classes inn ret params body) = r := ⟨_, rfl⟩
 rw [hr]
 refine (wC ah (ch := fU) r Tryz.func18 (by kernel_rfl) rfl rfl (by rfl) ?rid (by rfl) (fun R hkeep => ?_) m)
 case rid => intro x hx; rw [← hr] at hx; unfold OA at hx; split at hx <;> cases hx; rfl
 repeat (first | refine W.q ?_ | refine W.g ?_ gB)
 (repeat (first | refine W.seq ?_ | refine W.block ?_))
 refine W.lZ C7.ah bC ⟨upd (upd (upd (fun _ => .top) 3 (.c (.sl (params.map aJ)))) 4 (.c (.sl (body.map aW)))) 10 (.ptr 20 0), upd (upd Mem.nil 20 (some (.box 64 [.c (.sl (p.classes.map au)), .c (.sl (aO p.main)), .c (.str inn), .c (.str ret), .own 18]))) 18 (some (.mrow 46 2 (params.map aJ)))⟩ ?_ ?_
 ·skip
  refine lN (base := 0) C7.ah (by decide) aK 1 rfl rfl rfl aK aK ⟨_, rH, ?_⟩
  refine lN (base := 0) C7.ah (by decide) aK 2 rfl rfl rfl aK aK ⟨_, rH, ?_⟩
  refine lN (base := 0) C7.ah (by decide) aK 3 rfl rfl rfl aK aK ⟨_, rH, ?_⟩
  refine sQ (base := 0) C7.ah (by decide) ?_
  refine bY [0, 4] aK (by decide) ?_
  refine fH ⟨_, rH, ?_⟩ ?_
  ·skip
   refine bY [4] aK (by decide) ?_
   refine AP (D := []) rfl rfl rfl rfl rfl rfl rfl (fun u hu => by simp at hu) (by simp) cw1 (zZ params (by omega) _ 18 rfl) ?_ ?_
   ·skip
    refine aN 5 aK ⟨_, rH, ?_⟩
    refine aN 6 aK ⟨_, rH, ?_⟩
    refine aN 7 aK ⟨_, rH, ?_⟩
    refine kI aK ?_
    exact X4 (aQ hkeep)
   ·trivial
  ·skip
   refine AP (D := []) rfl rfl rfl rfl rfl rfl rfl (fun u hu => by simp at hu) (by simp) cw1 (zZ params (by omega) _ 18 rfl) ?_ ?_
   ·skip
    simp only [dw]
    refine aN 0 aK ⟨_, rH, ?_⟩
    refine aN 5 aK ⟨_, rH, ?_⟩
    refine aN 6 aK ⟨_, rH, ?_⟩
    refine aN 7 aK ⟨_, rH, ?_⟩
    refine kI aK ?_
    exact X4 (aQ hkeep)
   ·trivial
 intro st' hle
 refine W.weaken hle ?_
 clear hle st'
 refine W.go ?_
 refine W.loop (ι := Nat) (fun k => ⟨upd (upd (upd (upd (upd (upd (fun _ => .top) 4 (.c (.sl (body.map aW)))) 10 (.ptr 20 0)) 11 (.map 21)) 22 (.c (.sl (params.map aJ)))) 23 (.c (.int .i64 params.length))) 24 (.c (.int .i64 k)),
  upd (upd (upd Mem.nil 20 (some (.box 64 [.c (.sl (p.classes.map au)), .c (.sl (aO p.main)), .c (.str inn), .c (.str ret), .own 18]))) 18 (some (.mrow 46 2 (params.map aJ)))) 21 (some (.map (gy ((params.take k).map (·.name)))))⟩)
  (fun k => k ≤ params.length ∧ (params.take k).all (fun s => bJ p.classes s.type) = true) (fun k => params.length - k) 0 ?start ⟨Nat.zero_le _, rfl⟩ ?round
 case start =>
  refine dU ?sle ?mle ?swf ?mwf ?kept (by rfl)
  case kept => exact aQ hkeep
  case swf => repeat (first | exact bP _ | refine bQ ?_ Bd)
  case mwf => repeat (first | exact d9 _ | refine dS ?_ aaV)
  case mle => repeat (first | exact aV _ | exact aF _ | refine aT ?_ abI)
  case sle => repeat (first | exact aM _ | exact aH _ | refine aL ?_ Zt)
 case round =>
  rintro k ⟨hk, hall⟩;refine W.go ?_;refine W.cond rfl ?_ ?_
  ·intro hlt;replace hlt := dtl hlt;obtain ⟨x, hx⟩ : ∃ x, params[k]? = some x := ⟨_, List.getElem?_eq_getElem hlt⟩;have hat := bA (f := aJ) hx;have hkn := qZ p.classes [.sl (aO p.main), .str inn, .str ret, .sl (params.map aJ)] x.type (by omega);have hs : (params.take (k + 1)).all (fun s => bJ p.classes s.type) = bJ p.classes x.type := by
    exact Vs
   have hnm : (params.take (k + 1)).map (·.name) = (params.take k).map (·.name) ++ [x.name] := by rw [List.take_add_one, hx]; simp
   have hsn : lD ((params.take k).map (·.name)) x.name = false := by
    have := Ow (k := k) (n := x.name) hnd (by rw [List.getElem?_map, hx]; rfl)
    rwa [List.map_take] 
   have hfd := uD hsn;obtain ⟨sty, snm⟩ := x;simp only [aJ] at hat;dsimp only at hkn hs hnm hfd;refine Mg ?_;cases hkx : bJ p.classes sty with
   | false =>
     have hno : gQ p.classes inn ret params body = false := by
      have : params.all (fun s => bJ p.classes s.type) = false := by
       rw [List.all_eq_false];exact ⟨⟨sty, snm⟩, List.mem_of_getElem? hx, by simp [hkx]⟩
      unfold gQ; rw [this]; rfl
     rw [hkx] at hkn;obtain rfl : r = none := hr.symm.trans (by rw [hno]; rfl);refine W.bl ?_;refine Rn ?_;refine xs0 3 ?_;refine Jl ?_;exact TN
   | true =>
     rw [hkx] at hkn;refine W.bl ?_;refine zm1 ?_;refine xs0 3 ?_;refine Jl ?_;refine xs0 0 ?_;refine zm7 ?_;refine W.bl ?_;refine zm1 ?_;refine aj 5 (by simp only [exb, simprocAttr, hfd]; rfl) ?_;refine Fq ah (ents := gy ((params.take k).map (·.name))) rfl (.inl rfl) rfl rfl (by first | rfl | simp only [exb, simprocAttr]) rfl rfl (by rfl) rfl hfd ?_;refine mU ?_;refine ⟨k + 1, ⟨hlt, by rw [hs, hkx]⟩, by omega, ?_⟩;rw [hnm, mE];refine dU ?sle ?mle ?swf ?mwf ?kept (by rfl)
     case kept => exact aQ hkeep
     case swf => repeat (first | exact bP _ | refine bQ ?_ Bd)
     case mwf => repeat (first | exact d9 _ | refine dS ?_ aaV)
     case mle => repeat (first | exact aV _ | exact aF _ | refine aT ?_ (by first | rfl | (simp only [ak, aB, Nat.reduceEqDiff, reduceIte, vK, hw01, aP (show k + 1 < 9223372036854775808 by omega)]; done)))
     case sle => repeat (first | exact aM _ | exact aH _ | refine aL ?_ (by first | rfl | (simp only [ak, aD, aC, Nat.reduceEqDiff, reduceIte, vK, hw01, aP (show k + 1 < 9223372036854775808 by omega)]; done)))
  ·intro hge;replace hge := dnl hge;obtain rfl : k = params.length := by omega
   rw [List.take_length] at hall ⊢;have hon := L9 _ body (Nat.le_refl _) hbl hbs (upd (upd (upd Mem.nil 20 (some (.box 64 [.c (.sl (p.classes.map au)), .c (.sl (aO p.main)), .c (.str inn), .c (.str ret), .own 18]))) 18 (some (.mrow 46 2 (params.map aJ)))) 21 (some (.map (gy (params.map (·.name)))))) 100 21 (params.map (·.name)) (fun d => by rw [upd_ne _ _ (by omega), upd_ne _ _ (by omega), upd_ne _ _ (by omega)]; rfl) rfl;have hfr := yP (params.map (·.name)) (bE body);unfold qw ou at hon;refine W.exit ?_;cases hd : fP (params.map (·.name)) (bE body) with
   | some res =>
     obtain ⟨L', n'⟩ := res;rw [hd] at hfr hon;have hno : gQ p.classes inn ret params body = false := by
      unfold gQ; rw [hfr]; simp
     obtain rfl : r = none := hr.symm.trans (by rw [hno]; rfl);refine W.bl ?_;refine W.tK (base := 0) (ch := fU) OO.ah 2 (by decide) rfl ?_;refine aA Wp ?_;exact ⟨_, vQ (D := []) (fun u hu => by simp at hu) rfl rfl rfl rfl (by simp) cw2 hon, by rfl, rfl⟩
   | none =>
     rw [hd] at hfr hon;refine W.bl ?_;refine W.bR OO.ah 0 (by decide) ?_;refine aj 2 Wp ?_;refine bW (D := []) rfl rfl rfl rfl rfl (fun j hj => by simp at hj) (by simp) cw2 hon ?_;simp only [dw, eY, bS];refine xe0 ?_;have hbk := Hl p inn ret hS hB hlen hchk _ body (Nat.le_refl _) hK params hcnt (upd (upd (upd Mem.nil 20 (some (.box 64 [.c (.sl (p.classes.map au)), .c (.sl (aO p.main)), .c (.str inn), .c (.str ret), .own 18]))) 18 (some (.mrow 46 2 (params.map aJ)))) 21 (some (.map (gy (params.map (·.name) ++ bE body))))) 200 20 18 (fun d => by rw [upd_ne _ _ (by omega), upd_ne _ _ (by omega), upd_ne _ _ (by omega)]; rfl) rfl rfl ?hno
     case hno =>
      intro i o ho hi;by_cases e1 : i = 21
      ·subst e1;rw [upd_same] at ho;cases ho
       refine ⟨?_, ?_, ?_⟩
       ·simp only [O.ids]; rw [gD]; simp
       ·simp only [O.ids]; rw [gD]; simp
       ·show O.map _ = _
        congr 1
        unfold gy;rw [List.map_map]; rfl
      rw [upd_ne _ _ e1] at ho;by_cases e2 : i = 18
      ·subst e2;rw [upd_same] at ho;cases ho
       exact ⟨by simp [O.ids], by simp [O.ids], rfl⟩
      rw [upd_ne _ _ e2, upd_ne _ _ hi] at ho;cases ho
     cases hb : dR p.classes inn ret params body with
     | true =>
       have hyes : gQ p.classes inn ret params body = true := by
        unfold gQ; rw [hall, hfr, hb]; rfl
       obtain rfl : r = some (.tup []) := hr.symm.trans (by rw [hyes]; rfl);rw [hb] at hbk;unfold F3 at hbk;rw [if_pos rfl] at hbk;refine W.bl ?_;refine W.bR BB.ah 0 (by decide) ?_;refine aj 2 V7 ?_;refine bW (D := [18]) rfl rfl rfl rfl rfl (fun j hj => cu hkeep) (by simp) cw2 hbk ?_;simp only [dw, eY];refine xe0 ?_;refine ⟨by rfl, by simp, ?_⟩;simp only [Tryz.f18, aU, ay, toT, fin, exb, simprocAttr]
     | false =>
       have hno : gQ p.classes inn ret params body = false := by
        unfold gQ; rw [hb]; simp
       obtain rfl : r = none := hr.symm.trans (by rw [hno]; rfl);rw [hb] at hbk;unfold F3 at hbk;rw [if_neg (by decide)] at hbk;refine W.bl ?_;refine W.tK (base := 0) (ch := fU) BB.ah 2 (by decide) rfl ?_;refine aA V7 ?_;exact ⟨_, vQ (D := [20, 18]) (fun u hu => cu hkeep) rfl rfl rfl rfl (by simp) cw2 hbk, by rfl, rfl⟩
end
end V
end Go.Proofs.YtgaipdillmleeaaGreat
end
section
namespace Go.Proofs.YtgaipdillmleeaaGreat
namespace V
def Named (cs : List Class) : Prop := ∀ c ∈ cs, bT c.name = true
theorem OH {p : Program} (h : eO (oh p) p.classes = 0) : Named p.classes := by
 intro c hc;have hb : bK p = true := by
  exact UQ
 unfold bK at hb;rw [Bool.and_eq_true] at hb;have := List.all_eq_true.1 hb.2 c hc;simp only [cZ, dZ, Bool.and_eq_true] at this
 first | exact this.1.1.1 | exact this.1.1
theorem AX {cs : List Class} {t : ByteArray} : cs.any (lF t) = true ↔ ∃ c ∈ cs, c.name = t := by
 rw [List.any_eq_true];exact ⟨fun ⟨c, hc, h⟩ => ⟨c, hc, fI.1 h⟩, fun ⟨c, hc, h⟩ => ⟨c, hc, fI.2 h⟩⟩
theorem WY : bT iG = false := by decide +kernel
theorem Pp {cs : List Class} (h : Named cs) : cs.any (lF iG) = false := by
 cases hk : cs.any (lF iG) with
 | false => rfl
 | true =>
   obtain ⟨c, hc, e⟩ := AX.1 hk;have := h c hc;rw [e, WY] at this; cases this
theorem GU {cs : List Class} {a b : ByteArray} (h : pq 0 cs a b = true) : cs.any (lF b) = true := by
 obtain ⟨i, d, hd, e⟩ := IZ.1 h;exact AX.2 ⟨d, (iq cs _ a d (List.mem_of_getElem? hd)).1, e⟩
theorem xC {cs : List Class} {a b : ByteArray} (h : Named cs) : mY 0 cs a b = qQ 0 cs a b := by
 have e : pq 0 cs a b = (bq 0 cs a).any (fun x => x.toList == b.toList) := by
  unfold pq;rw [FB]
  congr 1; funext x; exact BEq.comm
 unfold mY qQ;rw [← e];have hb := GU (cs := cs) (a := a) (b := b);by_cases hn : (a.toList == iG.toList) = true
 ·obtain rfl := fI.1 hn;rw [Pp h, if_pos hn, hn];simp
 ·rw [if_neg hn];have hn : (a.toList == iG.toList) = false := by simpa using hn
  rw [hn];cases hB : pq 0 cs a b with
  | false => simp
  | true => rw [hb hB]; simp
theorem JA {β : Type} (cs : List Class) (g : Class → β) (h : Nat × Nat → β) (hg : ∀ x k, cs[x.2]? = some k → h x = g k) (k m : Nat) (name : ByteArray) : (upX cs k m name).map h = (bF cs k name).map g := by
 obtain ⟨f, h1, h2⟩ := oN cs k m name;rw [h1, List.map_map];refine List.ext_getElem? fun i => ?_;by_cases hi : i < (bF cs k name).length
 ·simp only [List.getElem?_map, List.getElem?_range hi, Option.map_some, Function.comp];rw [List.getElem?_eq_getElem hi, Option.map_some];rw [hg (m + i, f i) _ ((h2 i hi).trans (List.getElem?_eq_getElem hi))]
 ·exact Vu
theorem uf (cs : List Class) (k m : Nat) (name : ByteArray) : jw cs (upX cs k m name) = (bF cs k name).reverse.flatMap (·.fields) := by
 have e := JA cs (·.fields) (tu cs) (fun x k h => by simp [tu, h]) k m name;unfold jw;rw [List.flatMap_def, List.flatMap_def, List.map_reverse, List.map_reverse, e]
def CJ (n : ByteArray) (c : Class) : Option (Method × ByteArray) := (c.methods.find? (fV n)).map (·, c.name)
theorem pR {α β : Type} (f : α → Option β) : ∀ l : List α, l.findSome? f = (l.map f).findSome? id
 | [] => rfl
 | x :: l => by
   simp only [List.findSome?_cons, List.map_cons, id];cases f x with
   | none => exact pR f l
   | some y => rfl
theorem tT (cs : List Class) (cn n : ByteArray) : jd 0 cs cn n = (bF cs (cs.length + 1) cn).findSome? (CJ n) := by
 unfold jd xK;rw [if_pos rfl, pR, pR (CJ n), JA cs (CJ n) (z8 cs n) (fun x k h => by simp [z8, CJ, h])]
theorem rC {α β : Type} {f : α → Option β} : ∀ {l : List α} {r : β}, l.findSome? f = some r → ∃ (i : Nat) (x : α), l[i]? = some x ∧ f x = some r ∧ ∀ j y, j < i → l[j]? = some y → f y = none
 | [], r, h => by cases h
 | x :: l, r, h => by
   rw [List.findSome?_cons] at h;cases hx : f x with
   | some y => rw [hx] at h; cases h; exact ⟨0, x, rfl, hx, fun j y hj => absurd hj (Nat.not_lt_zero _)⟩
   | none =>
     rw [hx] at h;obtain ⟨i, y, h1, h2, h3⟩ := rC h;refine ⟨i + 1, y, by simpa using h1, h2, fun j z hj hz => ?_⟩;cases j with
     | zero => simp at hz; subst hz; exact hx
     | succ j => exact h3 j z (by omega) (by simpa using hz)
end V
end Go.Proofs.YtgaipdillmleeaaGreat
end
section
namespace Go.Proofs.YtgaipdillmleeaaGreat
namespace V
open Go.RowKit
def Ce (env : List Slot) (n : ByteArray) : ByteArray := (kE env n).getD tNo
abbrev uJ (cs : List Class) (a : List ByteArray) (b : List Slot) : Bool := iB (fun t s => qQ 0 cs t s.type) a b
def FP (cs : List Class) (nm : ByteArray) (ls : List ByteArray) : ByteArray := match eB cs nm (bq 0 cs (hdT ls)) with
 | some (m, _) => if uJ cs ls.tail m.params = true then m.type else tNo
 | none => tNo
def Fu (cs : List Class) (a b : ByteArray) : ByteArray :=
 if (isT a bO && isT b bO) = true then bO
 else if (!(isT a bO) && (!(isT b bO) && (qQ 0 cs a b || (qQ 0 cs b a || (isT a iG && isT b iG))))) = true then bO else tNo
def Aq (ls : List ByteArray) (t : ByteArray) : ByteArray := if ls.all (fun s => isT s t) = true then bO else tNo
def ER (cs : List Class) (inn : ByteArray) (env : List Slot) (k : Int) (nm : ByteArray) : ByteArray :=
 if k = 1 ∨ k = 11 then bO
 else if k = 2 then iG
 else if k = 3 then inn
 else if k = 4 then Ce env nm
 else if cs.any (lF nm) = true then nm else tNo
def jV (cs : List Class) (inn : ByteArray) (env : List Slot) (k : Int) (nm : ByteArray) (ls : List ByteArray) : ByteArray :=
 if k = 6 then (if isT (hdT ls) bO = true then gZ else tNo)
 else if k = 7 then Ce (dh cs (bq 0 cs (hdT ls))) nm
 else if k = 8 then (if (isT (hdT ls) gZ && isT (hdT ls.tail) bO) = true then bO else tNo)
 else if k = 9 then Aq ls gZ
 else if k = 10 then FP cs nm ls
 else if k = 12 ∨ k = 13 ∨ k = 14 ∨ k = 15 ∨ k = 16 ∨ k = 17 then Aq ls bO
 else if k = 18 then Fu cs (hdT ls) (hdT ls.tail)
 else ER cs inn env k nm
mutual
def xw (cs : List Class) (inn : ByteArray) (env : List Slot) : Expr → ByteArray
 | ⟨k, _, nm, kids⟩ => match jk cs inn env kids with
   | some ls => jV cs inn env k nm ls
   | none => tNo
def jk (cs : List Class) (inn : ByteArray) (env : List Slot) : List Expr → Option (List ByteArray)
 | [] => some []
 | x :: l => if isT (xw cs inn env x) tNo = true then none else (jk cs inn env l).map (xw cs inn env x :: ·)
end
def wZ (cs : List Class) (main : Bool) (ret : ByteArray) (k : Int) (ty : ByteArray) (ts : List ByteArray) : Bool :=
 if k = 1 then bJ cs ty && (ts.isEmpty || qQ 0 cs (hdT ts) ty)
 else if k = 2 then qQ 0 cs (hdT ts.tail) (hdT ts)
 else if k = 3 ∨ k = 4 ∨ k = 5 then isT (hdT ts) bO
 else if k = 6 then !main && qQ 0 cs (hdT ts) ret
 else true
def pz (cs : List Class) (inn : ByteArray) (main : Bool) (ret : ByteArray) (env : List Slot) (k : Int) (ty : ByteArray) (es : List Expr) : Bool := match jk cs inn env es with
 | some ts => wZ cs main ret k ty ts
 | none => false
mutual
def uO (cs : List Class) (inn : ByteArray) (main : Bool) (ret : ByteArray) (env : List Slot) : Stmt → Bool
 | ⟨k, _, ty, _, es, th, el⟩ => pz cs inn main ret env k ty es && dK cs inn main ret env th && dK cs inn main ret env el
def dK (cs : List Class) (inn : ByteArray) (main : Bool) (ret : ByteArray) (env : List Slot) : List Stmt → Bool
 | [] => true
 | x :: l => uO cs inn main ret env x && dK cs inn main ret (if x.kind = 1 then env ++ [⟨x.type, x.name⟩] else env) l
end
mutual
def KW : Stmt → List Slot
 | ⟨k, _, ty, nm, _, th, el⟩ => (if k = 1 then [⟨ty, nm⟩] else []) ++ gF th ++ gF el
def gF : List Stmt → List Slot
 | [] => []
 | x :: l => KW x ++ gF l
end
def kK (cs : List Class) (inn : ByteArray) (main : Bool) (ret : ByteArray) (params : List Slot) (body : List Stmt) : Bool :=
 !(jO (params ++ gF body)) && dK cs inn main ret params body
def iI (cs : List Class) (c : Class) : Bool :=
 c.fields.all (fun s => bJ cs s.type) && c.methods.all fun m => m.params.all (fun s => bJ cs s.type) && (bJ cs m.type && kK cs c.name false m.type m.params m.body)
def Eb (p : Program) : Bool := kK p.classes tNo true tNo [] p.main && p.classes.all (iI p.classes)
def ED (p : Program) : Int := if eO (oh p) p.classes = 0 then (if Eb p = true then 0 else 70) else eO (oh p) p.classes
structure Good (cs : List Class) : Prop where
 nm : Named cs
 s0 : Same0 cs
 fld : ∀ c ∈ cs, ∀ s ∈ c.fields, s.type ≠ tNo
 mth : ∀ c ∈ cs, ∀ m ∈ c.methods, m.type ≠ tNo
theorem r9 {a b : ByteArray} : isT a b = true ↔ a = b := by unfold isT; exact fI
theorem Jp (a b : ByteArray) : isT a b = decide (a = b) := by rw [Bool.eq_iff_iff, r9]; simp
theorem XF : bT tNo = false := by decide +kernel
theorem XV : eU tNo = false := by decide +kernel
theorem int_ne : bO ≠ tNo := by decide +kernel
theorem Qx : gZ ≠ tNo := by decide +kernel
theorem Rk : iG ≠ tNo := by decide +kernel
theorem Xi {cs : List Class} (h : Named cs) : (fun (t : ByteArray) (s : Slot) => mY 0 cs t s.type) = fun t s => qQ 0 cs t s.type := by
 funext t s; exact xC h
theorem K8 {l : List Slot} {n t : ByteArray} (h : kE l n = some t) : ∃ s ∈ l, s.type = t := by
 unfold kE at h;cases hf : l.find? (wX n) with
 | none => rw [hf] at h; cases h
 | some s => rw [hf] at h; cases h; exact ⟨s, List.mem_of_find?_eq_some hf, rfl⟩
theorem NK {cs : List Class} (n : ByteArray) : iK 0 cs n = dh cs (bq 0 cs n) := by
 unfold iK bq;rw [if_pos rfl, if_pos rfl, uf, iJ];unfold dh;rw [← List.map_reverse, List.flatMap_map, List.flatMap_def, List.flatMap_def]
 congr 1
 refine List.map_congr_left fun d hd => ?_;rw [wW (iq cs _ _ d (List.mem_reverse.1 hd)).2]
theorem I9 {cs : List Class} (h : Good cs) {n : ByteArray} {s : Slot} (hs : s ∈ iK 0 cs n) : s.type ≠ tNo := by
 unfold iK at hs;rw [if_pos rfl, uf, List.mem_flatMap] at hs;obtain ⟨c, hc, hs⟩ := hs;exact h.fld c (iq cs _ _ c (List.mem_reverse.1 hc)).1 s hs
theorem Gt {cs : List Class} (cn n : ByteArray) : (jd 0 cs cn n).map (·.1) = (eB cs n (bq 0 cs cn)).map (·.1) := by
 rw [tT];unfold bq;rw [if_pos rfl, iJ, qb n _ (fun d hd => (iq cs _ _ d hd).2)];generalize bF cs (cs.length + 1) cn = l;induction l with
 | nil => rfl
 | cons c l ih =>
   rw [List.findSome?_cons];unfold oz CJ;cases hf : c.methods.find? (fV n) with
   | some m => rfl
   | none => exact ih
theorem yQ {cs : List Class} {cn n : ByteArray} {m : Method} {d : ByteArray} (h : jd 0 cs cn n = some (m, d)) : ∃ c ∈ cs, m ∈ c.methods := by
 rw [tT] at h;obtain ⟨i, c, hc, hf, -⟩ := rC h;unfold CJ at hf;cases hg : c.methods.find? (fV n) with
 | none => rw [hg] at hf; cases hf
 | some m' =>
   rw [hg] at hf;cases hf
   exact ⟨c, (iq cs _ _ c (List.mem_of_getElem? hc)).1, List.mem_of_find?_eq_some hg⟩
mutual
def F6 : Expr → Prop
 | ⟨k, _, _, kids⟩ => (1 ≤ k ∧ k ≤ 18) ∧ (k = 6 ∨ k = 7 ∨ k = 9 ∨ k = 12 → kids.length = 1) ∧ (k = 10 → 1 ≤ kids.length) ∧ (k = 8 ∨ k = 13 ∨ k = 14 ∨ k = 15 ∨ k = 16 ∨ k = 17 ∨ k = 18 → kids.length = 2) ∧ oP kids
def oP : List Expr → Prop
 | [] => True
 | x :: l => F6 x ∧ oP l
end
theorem oP.mem : ∀ {l : List Expr} {x : Expr}, oP l → x ∈ l → F6 x
 | y :: l, x, h, hx => by
   simp only [oP] at h;rcases List.mem_cons.1 hx with rfl | hx
   ·exact h.1
   ·exact oP.mem h.2 hx
theorem Bh {ls : List ByteArray} (h : ls.length = 1) : ∃ a, ls = [a] := by
 match ls, h with
 | [a], _ => exact ⟨a, rfl⟩
theorem xM {ls : List ByteArray} (h : ls.length = 2) : ∃ a b, ls = [a, b] := by
 match ls, h with
 | [a, b], _ => exact ⟨a, b, rfl⟩
theorem zC {a t : ByteArray} : mI [a] [t] = isT a t := by simp [iB]
theorem EK {a b t u : ByteArray} : mI [a, b] [t, u] = (isT a t && isT b u) := by simp [iB]
set_option maxHeartbeats 2000000 in
theorem QF {cs : List Class} (hg : Good cs) (inn : ByteArray) (env : List Slot) {k : Int} (nm : ByteArray) {ls : List ByteArray} (hk : 1 ≤ k ∧ k ≤ 18) (h1 : k = 6 ∨ k = 7 ∨ k = 9 ∨ k = 12 → ls.length = 1) (h10 : k = 10 → 1 ≤ ls.length) (h2 : k = 8 ∨ k = 13 ∨ k = 14 ∨ k = 15 ∨ k = 16 ∨ k = 17 ∨ k = 18 → ls.length = 2) :
 jV cs inn env k nm ls = (eD cs inn env k nm ls).getD tNo ∧ ∀ t, eD cs inn env k nm ls = some t → t ≠ tNo := by
 have hks : k = 1 ∨ k = 2 ∨ k = 3 ∨ k = 4 ∨ k = 5 ∨ k = 6 ∨ k = 7 ∨ k = 8 ∨ k = 9 ∨ k = 10 ∨ k = 11 ∨ k = 12 ∨ k = 13 ∨ k = 14 ∨ k = 15 ∨ k = 16 ∨ k = 17 ∨ k = 18 := by omega
 have two : ∀ k', k' = k → k' = 13 ∨ k' = 14 ∨ k' = 15 ∨ k' = 16 ∨ k' = 17 → jV cs inn env k nm ls = (eD cs inn env k nm ls).getD tNo ∧ ∀ t, eD cs inn env k nm ls = some t → t ≠ tNo := by
  rintro k' rfl h;obtain ⟨a, b, rfl⟩ := xM (h2 (by omega));have e1 : jV cs inn env k' nm [a, b] = Aq [a, b] bO := by rcases h with rfl | rfl | rfl | rfl | rfl <;> rfl
  have e2 : eD cs inn env k' nm [a, b] = if mI [a, b] [bO, bO] = true then some bO else none := by rcases h with rfl | rfl | rfl | rfl | rfl <;> rfl
  rw [e1, e2, EK];unfold Aq;simp only [List.all_cons, List.all_nil, Bool.and_true];split
  ·exact ⟨rfl, fun t h => by cases h; exact int_ne⟩
  ·exact ⟨rfl, fun t h => by cases h⟩
 rcases hks with rfl | rfl | rfl | rfl | rfl | rfl | rfl | rfl | rfl | rfl | rfl | rfl | rfl | rfl | rfl | rfl | rfl | rfl
 ·exact ⟨rfl, fun t h => by cases h; exact int_ne⟩
 ·exact ⟨rfl, fun t h => by cases h; exact Rk⟩
 ·have e1 : jV cs inn env 3 nm ls = inn := rfl
  have e2 : eD cs inn env 3 nm ls = if isT inn tNo = true then none else some inn := rfl
  rw [e1, e2]
  split
  ·rename_i h; exact ⟨r9.1 h, fun t h => by cases h⟩
  ·rename_i h; exact ⟨rfl, fun t h2 => by cases h2; exact fun e => h (r9.2 e)⟩
 ·have e1 : jV cs inn env 4 nm ls = Ce env nm := rfl
  have e2 : eD cs inn env 4 nm ls = match kE env nm with | some t => if isT t tNo = true then none else some t | none => none := rfl
  rw [e1, e2]
  unfold Ce
  cases kE env nm with
  | none => exact ⟨rfl, fun t h => by cases h⟩
  | some u =>
    simp only;split
    ·rename_i h; exact ⟨r9.1 h, fun t h => by cases h⟩
    ·rename_i h; exact ⟨rfl, fun t h2 => by cases h2; exact fun e => h (r9.2 e)⟩
 ·have e1 : jV cs inn env 5 nm ls = if cs.any (lF nm) = true then nm else tNo := rfl
  have e2 : eD cs inn env 5 nm ls = if cs.any (lF nm) = true then some nm else none := rfl
  rw [e1, e2]
  split
  ·rename_i h
   obtain ⟨c, hc, rfl⟩ := AX.1 h
   exact ⟨rfl, fun t h2 => by cases h2; exact fun e => by have := hg.nm c hc; rw [e, XF] at this; cases this⟩
  ·exact ⟨rfl, fun t h => by cases h⟩
 ·obtain ⟨a, rfl⟩ := Bh (h1 (by omega))
  have e1 : jV cs inn env 6 nm [a] = if isT a bO = true then gZ else tNo := rfl
  have e2 : eD cs inn env 6 nm [a] = if mI [a] [bO] = true then some gZ else none := rfl
  rw [e1, e2, zC]
  split
  ·exact ⟨rfl, fun t h => by cases h; exact Qx⟩
  ·exact ⟨rfl, fun t h => by cases h⟩
 ·have e1 : jV cs inn env 7 nm ls = Ce (dh cs (bq 0 cs (hdT ls))) nm := rfl
  have e2 : eD cs inn env 7 nm ls = kE (iK 0 cs (hdT ls)) nm := rfl
  rw [e1, e2, ← NK]
  exact ⟨rfl, fun t h => by obtain ⟨s, hs, rfl⟩ := K8 h; exact I9 hg hs⟩
 ·obtain ⟨a, b, rfl⟩ := xM (h2 (by omega))
  have e1 : jV cs inn env 8 nm [a, b] = if (isT a gZ && isT b bO) = true then bO else tNo := rfl
  have e2 : eD cs inn env 8 nm [a, b] = if mI [a, b] [gZ, bO] = true then some bO else none := rfl
  rw [e1, e2, EK]
  split
  ·exact ⟨rfl, fun t h => by cases h; exact int_ne⟩
  ·exact ⟨rfl, fun t h => by cases h⟩
 ·obtain ⟨a, rfl⟩ := Bh (h1 (by omega))
  have e1 : jV cs inn env 9 nm [a] = Aq [a] gZ := rfl
  have e2 : eD cs inn env 9 nm [a] = if mI [a] [gZ] = true then some bO else none := rfl
  rw [e1, e2, zC]
  unfold Aq
  simp only [List.all_cons, List.all_nil, Bool.and_true]
  split
  ·exact ⟨rfl, fun t h => by cases h; exact int_ne⟩
  ·exact ⟨rfl, fun t h => by cases h⟩
 ·have e1 : jV cs inn env 10 nm ls = FP cs nm ls := rfl
  have e2 : eD cs inn env 10 nm ls = match jd 0 cs (hdT ls) nm with | some (m, _) => if AA cs ls.tail m.params = true then some m.type else none | none => none := rfl
  rw [e1, e2]
  unfold FP
  have hm := Gt (cs := cs) (hdT ls) nm
  cases hr : jd 0 cs (hdT ls) nm with
  | none =>
    rw [hr] at hm;cases hf : eB cs nm (bq 0 cs (hdT ls)) with
    | none => exact ⟨rfl, fun t h => by cases h⟩
    | some x => rw [hf] at hm; cases hm
  | some x =>
    obtain ⟨m, d⟩ := x;rw [hr] at hm;cases hf : eB cs nm (bq 0 cs (hdT ls)) with
    | none => rw [hf] at hm; cases hm
    | some x =>
      obtain ⟨m', d'⟩ := x;rw [hf] at hm;simp only [Option.map_some, Option.some.injEq] at hm;subst hm;simp only;unfold AA uJ;rw [Xi hg.nm];obtain ⟨c, hc, hmc⟩ := yQ hr;split
      ·exact ⟨rfl, fun t h => by cases h; exact hg.mth c hc m hmc⟩
      ·exact ⟨rfl, fun t h => by cases h⟩
 ·exact ⟨rfl, fun t h => by cases h; exact int_ne⟩
 ·obtain ⟨a, rfl⟩ := Bh (h1 (by omega))
  have e1 : jV cs inn env 12 nm [a] = Aq [a] bO := rfl
  have e2 : eD cs inn env 12 nm [a] = if mI [a] [bO] = true then some bO else none := rfl
  rw [e1, e2, zC]
  unfold Aq
  simp only [List.all_cons, List.all_nil, Bool.and_true]
  split
  ·exact ⟨rfl, fun t h => by cases h; exact int_ne⟩
  ·exact ⟨rfl, fun t h => by cases h⟩
 ·exact two 13 rfl (by decide)
 ·exact two 14 rfl (by decide)
 ·exact two 15 rfl (by decide)
 ·exact two 16 rfl (by decide)
 ·exact two 17 rfl (by decide)
 ·obtain ⟨a, b, rfl⟩ := xM (h2 (by omega))
  have e1 : jV cs inn env 18 nm [a, b] = Fu cs a b := rfl
  have e2 : eD cs inn env 18 nm [a, b] = if vG cs a b = true then some bO else none := rfl
  rw [e1, e2]
  unfold Fu vG
  rw [← xC hg.nm, ← xC hg.nm]
  cases isT a bO <;> cases isT b bO <;> cases isT a iG <;> cases isT b iG <;> cases mY 0 cs a b <;> cases mY 0 cs b a <;> exact ⟨rfl, fun t h => by cases h <;> exact int_ne⟩
mutual
theorem Sk {cs : List Class} (hg : Good cs) (inn : ByteArray) (env : List Slot) : ∀ (x : Expr), F6 x → xw cs inn env x = (pX cs inn env x).getD tNo ∧ ∀ t, pX cs inn env x = some t → t ≠ tNo
 | ⟨k, n, nm, kids⟩, h => by
   simp only [F6] at h;obtain ⟨h0, h1, h10, h2, hk⟩ := h;have ih := zY hg inn env kids hk;rw [xw, pX, ih];cases hts : gU cs inn env kids with
   | none => exact ⟨rfl, fun t h => by cases h⟩
   | some ts =>
     have hl := Dr cs inn env kids hts;rw [← hl] at h1 h10 h2;simp only [Option.bind_some];exact QF hg inn env nm h0 h1 h10 h2
theorem zY {cs : List Class} (hg : Good cs) (inn : ByteArray) (env : List Slot) : ∀ (l : List Expr), oP l → jk cs inn env l = gU cs inn env l
 | [], _ => rfl
 | x :: l, h => by
   simp only [oP] at h;obtain ⟨i1, i2⟩ := Sk hg inn env x h.1;have ih := zY hg inn env l h.2;rw [jk, gU, ih, i1];cases hx : pX cs inn env x with
   | none => rw [if_pos (by simp [isT])]
   | some t => rw [if_neg (by rw [Option.getD_some, r9]; exact i2 t hx)]; rfl
end
mutual
def IJ : Stmt → Prop
 | ⟨_, _, _, _, es, th, el⟩ => oP es ∧ lu th ∧ lu el
def lu : List Stmt → Prop
 | [] => True
 | x :: l => IJ x ∧ lu l
end
theorem lu.mem : ∀ {l : List Stmt} {x : Stmt}, lu l → x ∈ l → IJ x
 | y :: l, x, h, hx => by
   simp only [lu] at h;rcases List.mem_cons.1 hx with rfl | hx
   ·exact h.1
   ·exact lu.mem h.2 hx
theorem Lp {cs : List Class} (hg : Good cs) (main : Bool) (ret : ByteArray) (hmr : main = isT ret tNo) (env : List Slot) (k : Int) (ty : ByteArray) (ts : List ByteArray) {inn : ByteArray} : wZ cs main ret k ty ts = kr cs inn ret env k ty ts := by
 unfold wZ kr;rw [xC hg.nm, xC hg.nm, xC hg.nm, hmr]
mutual
theorem Ml {cs : List Class} (hg : Good cs) (inn : ByteArray) (main : Bool) (ret : ByteArray) (hmr : main = isT ret tNo) : ∀ (x : Stmt) (env : List Slot), IJ x → uO cs inn main ret env x = pI cs inn ret env x
 | ⟨k, n, ty, nm, es, th, el⟩, env, h => by
   simp only [IJ] at h;rw [uO, pI, o7 hg inn main ret hmr th env h.2.1, o7 hg inn main ret hmr el env h.2.2]
   congr 2
   unfold pz;rw [zY hg inn env es h.1];cases gU cs inn env es with
   | none => rfl
   | some ts => exact Lp hg main ret hmr env k ty ts
theorem o7 {cs : List Class} (hg : Good cs) (inn : ByteArray) (main : Bool) (ret : ByteArray) (hmr : main = isT ret tNo) : ∀ (l : List Stmt) (env : List Slot), lu l → dK cs inn main ret env l = dR cs inn ret env l
 | [], env, _ => by rw [dK, dR]
 | x :: l, env, h => by
   simp only [lu] at h;rw [dK, dR, Ml hg inn main ret hmr x env h.1, o7 hg inn main ret hmr l _ h.2]
end
mutual
theorem Hq : ∀ x : Stmt, (KW x).map (·.name) = Dh x
 | ⟨k, n, ty, nm, es, th, el⟩ => by
   rw [KW, Dh, List.map_append, List.map_append, nK th, nK el]
   congr 2
   split <;> rfl
theorem nK : ∀ l : List Stmt, (gF l).map (·.name) = bE l
 | [] => by rw [gF, bE]; rfl
 | x :: l => by rw [gF, bE, List.map_append, Hq x, nK l]
end
theorem uy : ∀ (l L : List ByteArray), L.Nodup → (uN L l = true ↔ (L ++ l).Nodup)
 | [], L, h => by simp [uN, h]
 | x :: l, L, h => by
   rw [uN, Bool.and_eq_true];have hx : (!(L.any fun y => y.toList == x.toList)) = true ↔ x ∉ L := by
    rw [Bool.not_eq_true', List.any_eq_false];constructor
    ·intro h1 h2; exact h1 x h2 (fI.2 rfl)
    ·intro h1 y hy h2; rw [fI.1 h2] at hy; exact h1 hy
   rw [hx];constructor
   ·rintro ⟨h1, h2⟩
    have hn : (L ++ [x]).Nodup := by rw [List.nodup_append]; exact ⟨h, by simp, fun a ha b hb => by simp at hb; subst hb; exact fun e => h1 (e ▸ ha)⟩
    have := (uy l (L ++ [x]) hn).1 h2
    rwa [List.append_assoc] at this
   ·intro h1;have h3 : (L ++ [x] ++ l).Nodup := by rw [List.append_assoc]; exact h1
    have hn : (L ++ [x]).Nodup := (List.nodup_append.1 h3).1;refine ⟨fun hm => ?_, (uy l (L ++ [x]) hn).2 h3⟩;exact (List.nodup_append.1 hn).2.2 x hm x (by simp) rfl
theorem G5 {l : List Slot} : (!(jO l)) = true ↔ (l.map (·.name)).Nodup := by
 rw [Bool.not_eq_true']; exact xZ l
theorem Cr {cs : List Class} (hg : Good cs) (inn : ByteArray) (main : Bool) (ret : ByteArray) (hmr : main = isT ret tNo) (params : List Slot) (hp : (params.map (·.name)).Nodup) (body : List Stmt) (hb : lu body) :
 gQ cs inn ret params body = (params.all (fun s => bJ cs s.type) && kK cs inn main ret params body) := by
 unfold gQ kK
 rw [o7 hg inn main ret hmr body params hb, Bool.and_assoc]
 congr 2
 rw [Bool.eq_iff_iff, G5, uy _ _ hp, List.map_append, nK]
theorem Dq {p : Program} (h : eO (oh p) p.classes = 0) : bK p = true := by
 exact UQ
theorem KG (kind : Int) (ls : Nat) (hs : (shapeOf kind).2 = true) (h1 : (shapeOf kind).1.least ≤ ls) (h2 : (ls : Int) ≤ (shapeOf kind).1.most) :
 (1 ≤ kind ∧ kind ≤ 18) ∧ (kind = 6 ∨ kind = 7 ∨ kind = 9 ∨ kind = 12 → ls = 1) ∧ (kind = 10 → 1 ≤ ls) ∧ (kind = 8 ∨ kind = 13 ∨ kind = 14 ∨ kind = 15 ∨ kind = 16 ∨ kind = 17 ∨ kind = 18 → ls = 2) ∧ ls ≤ 5 := by
 have hk : 1 ≤ kind ∧ kind ≤ 18 := by
  unfold shapeOf at hs;split at hs
  ·assumption
  ·cases hs
 have hks : kind = 1 ∨ kind = 2 ∨ kind = 3 ∨ kind = 4 ∨ kind = 5 ∨ kind = 6 ∨ kind = 7 ∨ kind = 8 ∨ kind = 9 ∨ kind = 10 ∨ kind = 11 ∨ kind = 12 ∨ kind = 13 ∨ kind = 14 ∨ kind = 15 ∨ kind = 16 ∨ kind = 17 ∨ kind = 18 := by omega
 rcases hks with rfl | rfl | rfl | rfl | rfl | rfl | rfl | rfl | rfl | rfl | rfl | rfl | rfl | rfl | rfl | rfl | rfl | rfl <;> simp [shapeOf, shapes] at h1 h2 <;> omega
mutual
theorem QC : ∀ x : Expr, dM x = true → F6 x ∧ yR x
 | ⟨k, n, nm, kids⟩, h => by
   simp only [dM, Bool.and_eq_true] at h;obtain ⟨ht, hk⟩ := h;simp only [gV, Bool.and_eq_true, decide_eq_true_eq] at ht;obtain ⟨⟨⟨⟨⟨hs, h1⟩, h2⟩, -⟩, -⟩, -⟩ := ht;obtain ⟨a1, a2, a3, a4, a5⟩ := KG k kids.length hs h1 h2;obtain ⟨b1, b2⟩ := zS kids hk;simp only [F6, yR];exact ⟨⟨a1, a2, a3, a4, b1⟩, fun h => a2 (by omega), a3, fun h => a4 (by omega), by omega, b2⟩
theorem zS : ∀ l : List Expr, xu l = true → oP l ∧ nC l
 | [], _ => by simp only [oP, nC]; exact ⟨trivial, trivial⟩
 | x :: l, h => by
   simp only [xu, Bool.and_eq_true] at h;obtain ⟨a1, a2⟩ := QC x h.1;obtain ⟨b1, b2⟩ := zS l h.2;simp only [oP, nC];exact ⟨⟨a1, b1⟩, a2, b2⟩
end
theorem Fe {k : Int} {n : Nat} (h0 : 0 ≤ (bX k).1) (h1 : (bX k).1 ≤ n) (h2 : (n : Int) ≤ (bX k).2) : (k = 2 → n = 2) ∧ (k = 3 ∨ k = 4 ∨ k = 5 ∨ k = 6 → 1 ≤ n) ∧ n ≤ 2 := by
 unfold bX at h0 h1 h2;by_cases e1 : k = 1
 ·rw [if_pos e1] at h0 h1 h2; simp at h0 h1 h2; omega
 rw [if_neg e1] at h0 h1 h2;by_cases e2 : k = 2
 ·rw [if_pos e2] at h0 h1 h2; simp at h0 h1 h2; omega
 rw [if_neg e2] at h0 h1 h2;by_cases e3 : 3 ≤ k ∧ k ≤ 7
 ·rw [if_pos e3] at h0 h1 h2; simp at h0 h1 h2; omega
 rw [if_neg e3] at h0 h1 h2; simp at h0
mutual
theorem QO : ∀ x : Stmt, bU x = true → IJ x ∧ CO x
 | ⟨k, n, t, nm, es, th, el⟩, h => by
   simp only [bU, Bool.and_eq_true] at h;obtain ⟨⟨⟨⟨ht, he⟩, -⟩, h1⟩, h2⟩ := h;simp only [bD, Bool.and_eq_true, decide_eq_true_eq] at ht;obtain ⟨⟨⟨⟨⟨⟨q0, q1⟩, q2⟩, -⟩, -⟩, -⟩, -⟩ := ht;obtain ⟨a1, a2, a3⟩ := Fe q0 q1 q2;rw [← um] at he;obtain ⟨b1, b2⟩ := zS es he;obtain ⟨c1, c2⟩ := qA th h1;obtain ⟨d1, d2⟩ := qA el h2;simp only [IJ, CO];exact ⟨⟨b1, c1, d1⟩, a1, a2, by omega, b2, c2, d2⟩
theorem qA : ∀ l : List Stmt, uj l = true → lu l ∧ jF l
 | [], _ => by simp only [lu, jF]; exact ⟨trivial, trivial⟩
 | x :: l, h => by
   simp only [uj, Bool.and_eq_true] at h;obtain ⟨a1, a2⟩ := QO x h.1;obtain ⟨b1, b2⟩ := qA l h.2;simp only [lu, jF];exact ⟨⟨a1, b1⟩, a2, b2⟩
end
theorem Ed {p : Program} (h : eO (oh p) p.classes = 0) : lu p.main ∧ jF p.main := by
 have hb := Dq h;unfold bK at hb;rw [Bool.and_eq_true, ← pU] at hb;exact qA _ hb.1
theorem zI {p : Program} (h : eO (oh p) p.classes = 0) {c : Class} (hc : c ∈ p.classes) : (∀ s ∈ c.fields, fB s = true) ∧ ∀ m ∈ c.methods, bL m = true := by
 have hb := Dq h;unfold bK at hb;rw [Bool.and_eq_true] at hb;have := List.all_eq_true.1 hb.2 c hc;simp only [cZ, dZ, Bool.and_eq_true] at this;exact ⟨List.all_eq_true.1 this.1.2, List.all_eq_true.1 this.2⟩
theorem xP {p : Program} (h : eO (oh p) p.classes = 0) {c : Class} (hc : c ∈ p.classes) {m : Method} (hm : m ∈ c.methods) : lu m.body ∧ jF m.body := by
 have := (zI h hc).2 m hm;unfold bL at this;simp only [Bool.and_eq_true] at this;exact qA _ (by rw [pU]; exact this.2)
theorem CY {s : Slot} (h : fB s = true) : s.type ≠ tNo := by
 unfold fB at h;rw [Bool.and_eq_true] at h;intro e;have := h.1;rw [e, XV] at this; cases this
theorem Ef {p : Program} (h : eO (oh p) p.classes = 0) : Good p.classes where
 nm := OH h
 s0 := GK h
 fld := fun c hc s hs => CY ((zI h hc).1 s hs)
 mth := fun c hc m hm => by
  have := (zI h hc).2 m hm;unfold bL at this;simp only [Bool.and_eq_true] at this;exact CY (s := ⟨m.type, m.name⟩) this.1.1.1
theorem Ji {p : Program} (h : eO (oh p) p.classes = 0) {c : Class} (hc : c ∈ p.classes) : lW p.classes c = iI p.classes c := by
 have hg := Ef h;unfold lW iI
 congr 1
 rw [Bool.eq_iff_iff, List.all_eq_true, List.all_eq_true];refine forall_congr' fun m => forall_congr' fun hm => ?_;rw [Cr hg c.name false m.type (by have := hg.mth c hc m hm; rw [Jp]; simp [this]) m.params (hg.s0.params c hc m hm) m.body (xP h hc hm).1];rw [← Bool.eq_iff_iff];cases bJ p.classes m.type <;> cases m.params.all (fun s => bJ p.classes s.type) <;> rfl
theorem Li {p : Program} (h : eO (oh p) p.classes = 0) : kR p = Eb p := by
 have hg := Ef h;unfold kR Eb;rw [Cr hg tNo true tNo (by rw [Jp]; simp) [] (by simp) p.main (Ed h).1]
 congr 1
 rw [Bool.eq_iff_iff, List.all_eq_true, List.all_eq_true];exact forall_congr' fun c => forall_congr' fun hc => by rw [Ji h hc]
theorem R3 (p : Program) : ru p = ED p := by
 unfold ru ED;split
 ·rename_i h; rw [Li h]
 ·rfl
theorem DC (env : List Slot) (n : ByteArray) (hlen : env.length ≤ 1000000000) (m : Mem) : COk Tryz.prog 155 [.c (.sl (env.map aJ)), .c (.str n)] m (.c (.str (Ce env n))) := by
 refine (aS ah Tryz.func155 (by kernel_rfl) rfl rfl (by rfl) (by rfl) (by rfl) (fun R hkeep => ?_) m);refine W.go ?_;refine W.loop (ι := Nat) (fun k => ⟨upd (upd (upd (upd (fun _ => .top) 1 (.c (.str n))) 7 (.c (.sl (env.map aJ)))) 8 (.c (.int .i64 env.length))) 9 (.c (.int .i64 k)), Mem.nil⟩) (fun k => k ≤ env.length ∧ (env.take k).find? (wX n) = none) (fun k => env.length - k) 0 ?start ⟨Nat.zero_le _, rfl⟩ ?round
 case start =>
  exact Ae
 case round =>
  rintro k ⟨hk, hall⟩;refine W.go ?_;refine W.cond rfl ?_ ?_
  ·intro hlt;replace hlt := dtl hlt;obtain ⟨x, hx⟩ : ∃ x, env[k]? = some x := ⟨_, List.getElem?_eq_getElem hlt⟩
   repeat (first | refine W.q ?_ | refine W.g ?_ JX)
   refine W.cond rfl ?_ ?_
   ·intro heq;refine zm6 ?_;simp only [Tryz.f155, aU, ay, toT, fin, exb, simprocAttr];rw [show Ce env n = x.type by unfold Ce kE; rw [(oF hall hx).1 heq]; rfl]
   ·exact Ul
  ·intro hge;replace hge := dnl hge;obtain rfl : k = env.length := by omega
   rw [List.take_length] at hall;refine zm6 ?_;simp only [Tryz.f155, aU, ay, toT, fin, exb, simprocAttr];rw [show Ce env n = tNo by unfold Ce kE; rw [hall]; rfl]
theorem Ky (l : List ByteArray) (t : ByteArray) (hlen : l.length ≤ 1000000000) (m : Mem) : COk Tryz.prog 157 [.c (.sl (l.map cStr)), .c (.str t)] m (.c (.str (Aq l t))) := by
 refine (aS ah Tryz.func157 (by kernel_rfl) rfl rfl (by rfl) (by rfl) (by rfl) (fun R hkeep => ?_) m);refine W.go ?_;refine W.loop (ι := Nat) (fun k => ⟨upd (upd (upd (upd (fun _ => .top) 1 (.c (.str t))) 7 (.c (.sl (l.map cStr)))) 8 (.c (.int .i64 l.length))) 9 (.c (.int .i64 k)), Mem.nil⟩) (fun k => k ≤ l.length ∧ (l.take k).all (fun s => isT s t) = true) (fun k => l.length - k) 0 ?start ⟨Nat.zero_le _, rfl⟩ ?round
 case start =>
  exact Ae
 case round =>
  rintro k ⟨hk, hall⟩;refine W.go ?_;refine W.cond rfl ?_ ?_
  ·intro hlt;replace hlt := dtl hlt;obtain ⟨x, hx⟩ : ∃ x, l[k]? = some x := ⟨_, List.getElem?_eq_getElem hlt⟩;have hs : (l.take (k + 1)).all (fun s => isT s t) = isT x t := by
    exact Vs
   repeat (first | refine W.q ?_ | refine W.g ?_ O4)
   refine W.cond rfl ?_ ?_
   ·intro heq;have hno : isT x t = false := by unfold isT; simpa using heq
    refine zm6 ?_;simp only [Tryz.f157, aU, ay, toT, fin, exb, simprocAttr];rw [show Aq l t = tNo from if_neg (fun h => by have := List.all_eq_true.1 h x (List.mem_of_getElem? hx); rw [hno] at this; cases this)]
   ·intro hne;have hyes : isT x t = true := by unfold isT; simpa using hne
    refine W.go ?_;refine ⟨k + 1, ⟨hlt, by rw [hs]; exact hyes⟩, by omega, ?_⟩;exact O9
  ·intro hge;replace hge := dnl hge;obtain rfl : k = l.length := by omega
   rw [List.take_length] at hall;refine zm6 ?_;simp only [Tryz.f157, aU, ay, toT, fin, exb, simprocAttr];rw [show Aq l t = bO from if_pos hall]
section
variable (p : Program) (hlen : p.classes.length ≤ 16) (hchk : ∀ m, COk Tryz.prog 21 [.agg (bI p)] m (.c (.int .i64 0)))
include hlen hchk
theorem Ia (a b : ByteArray) (m : Mem) : COk Tryz.prog 159 [.agg (bI p), .c (.str a), .c (.str b)] m (.c (.str (Fu p.classes a b))) := by
 have hfa := fun m => kN p 0 a b (by omega) hchk m
 have hfb := fun m => kN p 0 b a (by omega) hchk m
 unfold Fu isT;generalize qQ 0 p.classes a b = Fa at hfa;generalize qQ 0 p.classes b a = Fb at hfb;have hcp : bI p = [.sl (p.classes.map au), .sl (aO p.main)] := rfl;refine (aS ah Tryz.func159 (by kernel_rfl) rfl rfl (by rfl) (by rfl) (by rfl) (fun R hkeep => ?_) m);refine KE ?_;cases h1 : (a.toList == bO.toList) with
 | true =>
   cases h2 : (b.toList == bO.toList) with
   | true =>
     refine zm1 ?_;exact WA
   | false =>
     refine zm1 ?_;refine aA Cm ?_;refine W.cf rfl ?_;exact VQ
 | false =>
   refine zm1 ?_;refine aA JF ?_;refine W.cf rfl ?_;cases h2 : (b.toList == bO.toList) with
   | true =>
     exact VQ
   | false =>
     refine W.bl ?_;refine zm1 ?_;refine aj 10 ND ?_;refine av rfl rfl rfl rfl rfl (by simp) cw3 (hfa _) ?_;cases Fa with
     | true =>
       exact WA
     | false =>
       refine aj 4 ND ?_;refine av rfl rfl rfl rfl rfl (by simp) cw3 (hfb _) ?_;cases Fb with
       | true =>
         exact WA
       | false =>
         cases h3 : (a.toList == iG.toList) with
         | true =>
           cases h4 : (b.toList == iG.toList) with
           | true =>
             refine aA Vb ?_;exact Vm
           | false =>
             refine aA Vb ?_;exact Tk
         | false =>
           refine aA Wh ?_;exact Tk
omit hchk in
theorem I5 (inn : ByteArray) (env : List Slot) (henv : env.length ≤ 1000000000) (k nn : Int) (nm : ByteArray) (kids : List Expr) (m : Mem) : COk Tryz.prog 160 [.agg (bI p), .c (.str inn), .c (.sl (env.map aJ)), .agg (cExpr ⟨k, nn, nm, kids⟩)] m (.c (.str (ER p.classes inn env k nm))) := by
 have hcl := nU p.classes (.sl (aO p.main)) nm (by omega);have hva := DC env nm henv;have hcp : bI p = [.sl (p.classes.map au), .sl (aO p.main)] := rfl;refine (aS ah Tryz.func160 (by kernel_rfl) rfl rfl (by rfl) (by rfl) (by rfl) (fun R hkeep => ?_) m)
 repeat (first | refine W.q ?_ | refine W.g ?_ (by simp only [exb, simprocAttr, hcp, cExpr]; rfl))
 refine W.cond rfl ?_ ?_
 ·intro h;obtain rfl : k = 1 := by simpa using h
  refine W.go ?_;refine jA ?_;exact SG
 intro h;have n1 : ¬ k = 1 := by simpa using h
 refine W.go ?_;refine W.cond rfl ?_ ?_
 ·intro h;obtain rfl : k = 11 := by simpa using h
  exact SG
 intro h;have n11 : ¬ k = 11 := by simpa using h
 refine W.go ?_;refine W.cond rfl ?_ ?_
 ·intro h;obtain rfl : k = 2 := by simpa using h
  exact SG
 intro h;have n2 : ¬ k = 2 := by simpa using h
 refine W.go ?_;refine W.cond rfl ?_ ?_
 ·intro h;obtain rfl : k = 3 := by simpa using h
  exact SG
 intro h;have n3 : ¬ k = 3 := by simpa using h
 refine W.go ?_;refine W.cond rfl ?_ ?_
 ·intro h;obtain rfl : k = 4 := by simpa using h
  refine W.go ?_;refine zm1 ?_;refine xs0 3 ?_;refine av rfl rfl rfl rfl rfl (by simp) cw2 (hva _) ?_;refine xe0 ?_;exact SG
 intro h;have n4 : ¬ k = 4 := by simpa using h
 have hk : ER p.classes inn env k nm = if p.classes.any (lF nm) = true then nm else tNo := by simp [ER, n1, n11, n2, n3, n4]
 rw [hk];generalize p.classes.any (lF nm) = B at hcl;refine W.go ?_;refine zm1 ?_;refine aj 3 gB ?_;refine O7 ?_;refine xe0 ?_;refine W.cond rfl ?_ ?_
 ·intro h;obtain rfl : B = true := h;refine W.go ?_;refine W.rt ?_;simp only [Tryz.f160, aU, ay, toT, fin, exb, simprocAttr]
 ·intro h;obtain rfl : B = false := h;exact SG
theorem Ew (hS : fu p.classes) (n : ByteArray) (m : Mem) : COk Tryz.prog 156 [.agg (bI p), .c (.str n)] m (.c (.sl ((dh p.classes (bq 0 p.classes n)).map aJ))) := by
 have hL : (bq 0 p.classes n).length ≤ 17 := by
  unfold bq;rw [if_pos rfl];have := nu p.classes (p.classes.length + 1) n; omega
 have hF := nP hS (bq 0 p.classes n);have hF2 : (dh p.classes (bq 0 p.classes n)).length ≤ 1000000000 := by
  have := Nat.mul_le_mul_right 1048576 hL;omega
 have hfi := Cj p.classes (.sl (aO p.main)) (bq 0 p.classes n) (by omega) (by omega) hF2;have hch := fun m => rT p 0 n (by omega) hchk m
 have hcp : bI p = [.sl (p.classes.map au), .sl (aO p.main)] := rfl;refine (aS ah Tryz.func156 (by kernel_rfl) rfl rfl (by rfl) (by rfl) (by rfl) (fun R hkeep => ?_) m);refine KE ?_;refine zm5 ?_;refine acu ?_;refine aj 0 gB ?_;refine av rfl rfl rfl rfl rfl (by simp) cw2 (hfi _) ?_;refine xe0 ?_;refine W.rt ?_;simp only [Tryz.f156, aU, ay, toT, fin, exb, simprocAttr]
theorem Ez (hS : fu p.classes) (cn n : ByteArray) (m : Mem) : COk Tryz.prog 171 [.agg (bI p), .c (.str cn), .c (.str n)] m (.tup (iR (eB p.classes n (bq 0 p.classes cn)))) := by
 have hL : (bq 0 p.classes cn).length ≤ 17 := by
  unfold bq;rw [if_pos rfl];have := nu p.classes (p.classes.length + 1) cn; omega
 have hme := CU p.classes (.sl (aO p.main)) (bq 0 p.classes cn) n (by omega) (by omega) (fun x => by have := (hS.dX x).2; omega);have hch := fun m => rT p 0 cn (by omega) hchk m
 have hcp : bI p = [.sl (p.classes.map au), .sl (aO p.main)] := rfl;generalize eB p.classes n (bq 0 p.classes cn) = r at hme;refine (aS ah Tryz.func171 (by kernel_rfl) rfl rfl (by rfl) (by rfl) (by rfl) (fun R hkeep => ?_) m);refine KE ?_;refine zm5 ?_;refine acu ?_;refine aj 1 gB ?_;refine aaF ?_;match r with
 | some (x, d) =>
   refine aA SE ?_;refine W.rt ?_;simp only [Tryz.f171, aU, ay, toT, fin, exb, simprocAttr, iR, aI]
 | none =>
   refine aA Ud ?_;refine W.rt ?_;simp only [Tryz.f171, aU, ay, toT, fin, exb, simprocAttr, iR, aI] <;> rfl
end
theorem uM (cs : List Class) (inn : ByteArray) (env : List Slot) : ∀ (l : List Expr) (x : Expr) {ts : List ByteArray}, jk cs inn env l = some ts → jk cs inn env (l ++ [x]) = if isT (xw cs inn env x) tNo = true then none else some (ts ++ [xw cs inn env x])
 | [], x, ts, h => by
   rw [jk] at h;cases h
   rw [List.nil_append, jk, jk]; rfl
 | y :: l, x, ts, h => by
   rw [jk] at h;rw [List.cons_append, jk];split at h
   ·cases h
   ·rename_i hy;rw [if_neg hy];cases hl : jk cs inn env l with
    | none => rw [hl] at h; cases h
    | some us =>
      rw [hl] at h;cases h
      rw [uM cs inn env l x hl];split <;> rfl
theorem uK (cs : List Class) (inn : ByteArray) (env : List Slot) : ∀ (l r : List Expr), jk cs inn env l = none → jk cs inn env (l ++ r) = none
 | [], r, h => by rw [jk] at h; cases h
 | y :: l, r, h => by
   rw [jk] at h;rw [List.cons_append, jk];split at h
   ·rename_i hy; rw [if_pos hy]
   ·rename_i hy;rw [if_neg hy];cases hl : jk cs inn env l with
    | none => rw [uK cs inn env l r hl]; rfl
    | some us => rw [hl] at h; cases h
section
variable (p : Program) (hlen : p.classes.length ≤ 16) (hS : fu p.classes) (hchk : ∀ m, COk Tryz.prog 21 [.agg (bI p)] m (.c (.int .i64 0)))
include hlen hS hchk
theorem Hf (nm l0 : ByteArray) (lr : List ByteArray) (hl : lr.length ≤ 1000000000) (m : Mem) : COk Tryz.prog 158 [.agg (bI p), .c (.str nm), .c (.sl ((l0 :: lr).map cStr))] m (.c (.str (FP p.classes nm (l0 :: lr)))) := by
 have hcp : bI p = [.sl (p.classes.map au), .sl (aO p.main)] := rfl;have hme := Ez p hlen hchk hS l0 nm;have hcd : FP p.classes nm (l0 :: lr) = match eB p.classes nm (bq 0 p.classes l0) with | some (m, _) => if uJ p.classes lr m.params = true then m.type else tNo | none => tNo := rfl
 rw [hcd];have hpar : ∀ x d, eB p.classes nm (bq 0 p.classes l0) = some (x, d) → x.params.length ≤ 1048576 := by
  intro x d hx;have hm := Gt (cs := p.classes) l0 nm;rw [hx] at hm;cases hr : jd 0 p.classes l0 nm with
  | none => rw [hr] at hm; cases hm
  | some y =>
    obtain ⟨y, d'⟩ := y;rw [hr] at hm;simp only [Option.map_some, Option.some.injEq] at hm;subst hm;obtain ⟨c, hc, hmc⟩ := yQ hr;exact (hS c hc).2.2 y hmc
 generalize eB p.classes nm (bq 0 p.classes l0) = r at hme hpar;have h0 : (l0 :: lr).map cStr = [C.str l0] :: lr.map cStr := rfl;rw [h0];refine (aS ah Tryz.func158 (by kernel_rfl) rfl rfl (by rfl) (by rfl) (by rfl) (fun R hkeep => ?_) m);refine KE ?_;refine zm5 ?_;match r, hpar with
 | none, _ =>
   refine aj 5 gB ?_;refine aaF ?_;refine aA Ud ?_;refine W.go ?_;refine jA ?_;refine W.go ?_;refine W.rt ?_;simp only [Tryz.f158, aU, ay, toT, fin, exb, simprocAttr]
 | some (⟨mty, mnm, mps, mbd⟩, d), hpar =>
   have hp := hpar _ _ rfl;have hwl : IntKind.i64.wrap (lr.length : Int) = lr.length := rU (by omega);dsimp only at hp ⊢;refine aj 5 gB ?_;refine aaF ?_;refine aA SE ?_
   repeat (first | refine W.q ?_ | refine W.g ?_ (by simp only [exb, simprocAttr, List.length_cons, qL, hwl]; rfl))
   refine W.cond rfl ?_ ?_
   ·intro h;have hne : lr.length ≠ mps.length := by
     intro e; rw [e] at h; simp at h
    refine zm6 ?_;simp only [Tryz.f158, aU, ay, toT, fin, exb, simprocAttr];rw [show uJ p.classes lr mps = false from oW hne]; rfl
   intro h;have he : lr.length = mps.length := by
    simp at h; omega
   refine W.go ?_;refine W.loop (ι := Nat) (fun k => ⟨upd (upd (upd (upd (upd (upd (fun _ => .top) 2 (.c (.sl ([C.str l0] :: lr.map cStr)))) 3 (.ptr 3 0)) 7 (.ptr 7 0)) 34 (.c (.sl (mps.map aJ)))) 35 (.c (.int .i64 mps.length))) 36 (.c (.int .i64 k)),
    upd (upd Mem.nil 3 (some (.box 25 [.c (.sl (p.classes.map au)), .c (.sl (aO p.main))]))) 7 (some (.box 44 [.c (.str mty), .c (.str mnm), .c (.sl (mps.map aJ)), .c (.sl (aO mbd))]))⟩)
    (fun k => k ≤ mps.length ∧ uJ p.classes (lr.take k) (mps.take k) = true) (fun k => mps.length - k) 0 ?start ⟨Nat.zero_le _, rfl⟩ ?round
   case start =>
    exact Ae
   case round =>
    rintro k ⟨hk, hall⟩;refine W.go ?_;refine W.cond rfl ?_ ?_
    ·intro hlt;replace hlt := dtl hlt;obtain ⟨x, hx⟩ : ∃ x, mps[k]? = some x := ⟨_, List.getElem?_eq_getElem hlt⟩;obtain ⟨t, ht⟩ : ∃ t, lr[k]? = some t := ⟨_, List.getElem?_eq_getElem (by omega)⟩;have hat : (lr.map cStr)[k]? = some [C.str t] := bA (f := cStr) ht;have hfi := fun m => kN p 0 t x.type (by omega) hchk m
     have hz : uJ p.classes (lr.take (k + 1)) (mps.take (k + 1)) = qQ 0 p.classes t x.type := qF (p := fun t s => qQ 0 p.classes t s.type) he ht hx hall;generalize qQ 0 p.classes t x.type = F at hfi hz
     repeat (first | refine W.q ?_ | refine W.g ?_ JX)
     refine zm5 ?_;refine aj 8 (by simp only [exb, simprocAttr, hcp, aP (show k + 1 < 9223372036854775808 by omega), hat]; rfl) ?_;refine av rfl rfl rfl rfl rfl (by simp) cw3 (hfi _) ?_;refine xe0 ?_;refine W.cond rfl ?_ ?_
     ·intro h;obtain rfl : F = false := by simpa using h
      refine zm6 ?_;simp only [Tryz.f158, aU, ay, toT, fin, exb, simprocAttr];rw [show uJ p.classes lr mps = false from xY he hz]; rfl
     ·intro h;obtain rfl : F = true := by simpa using h
      refine W.go ?_;refine ⟨k + 1, ⟨hlt, hz⟩, by omega, ?_⟩;exact O9
    ·intro hge;replace hge := dnl hge;obtain rfl : k = mps.length := by omega
     have e1 : lr.take mps.length = lr := by rw [← he, List.take_length]
     rw [List.take_length, e1] at hall;refine zm6 ?_;simp only [Tryz.f158, aU, ay, toT, fin, exb, simprocAttr];rw [hall]; rfl
set_option maxHeartbeats 8000000 in
theorem LH (inn : ByteArray) (env : List Slot) (henv : env.length ≤ 1000000000) : ∀ (n : Nat) (x : Expr), SizeOf.sizeOf x ≤ n → F6 x → yR x → ∀ m, COk Tryz.prog 129 [.agg (bI p), .c (.str inn), .c (.sl (env.map aJ)), .agg (cExpr x)] m (.c (.str (xw p.classes inn env x))) := by
 have hcp : bI p = [.sl (p.classes.map au), .sl (aO p.main)] := rfl;intro n;induction n using Nat.strongRecOn with
 | ind n ih =>
 rintro ⟨k, nn, nm, kids⟩ hn hY hK m;have hsz := Expr.mk.sizeOf_spec k nn nm kids;simp only [F6] at hY;obtain ⟨hk, h1, h10, h2, hy⟩ := hY;simp only [yR] at hK;obtain ⟨-, -, -, hkl, kk⟩ := hK;have hlf := I5 p hlen inn env henv k nn nm kids;simp only [cExpr, aX] at hlf;simp only [cExpr, aX];refine (aS ah Tryz.func129 (by kernel_rfl) rfl rfl (by rfl) (by rfl) (by rfl) (fun R hkeep => ?_) m);refine KE ?_;refine W.mZ 9 9 9 1 rfl rfl ?_;refine W.loop (ι := List ByteArray) (fun ts => ⟨upd (upd (upd (upd (upd (upd (upd (upd (fun _ => .top) 1 (.c (.str inn))) 2 (.c (.sl (env.map aJ)))) 4 (.ptr 4 0)) 7 (.ptr 7 0)) 9 (.own 9)) 14 (.c (.sl (kids.map cExpr)))) 15 (.c (.int .i64 kids.length))) 16 (.c (.int .i64 ts.length)),
  upd (upd (upd Mem.nil 4 (some (.box 25 [.c (.sl (p.classes.map au)), .c (.sl (aO p.main))]))) 7 (some (.box 35 [.c (.int .i64 k), .c (.int .i64 nn), .c (.str nm), .c (.sl (kids.map cExpr))]))) 9 (some (.arr 9 1 (ts.map cStr)))⟩)
  (fun ts => ts.length ≤ kids.length ∧ jk p.classes inn env (kids.take ts.length) = some ts) (fun ts => kids.length - ts.length) [] ?start ⟨Nat.zero_le _, by simp [jk]⟩ ?round
 case start =>
  exact Ae
 case round =>
  rintro ts ⟨hkt, hall⟩;refine W.go ?_;refine W.cond rfl ?_ ?_
  ·intro hlt;replace hlt := dtl hlt;obtain ⟨x, hx⟩ : ∃ x, kids[ts.length]? = some x := ⟨_, List.getElem?_eq_getElem hlt⟩;have hxm := List.mem_of_getElem? hx;have hxs := List.sizeOf_lt_of_mem hxm;have hT := ih (SizeOf.sizeOf x) (by omega) x (Nat.le_refl _) (hy.mem hxm) (kk.mem hxm);have htk : kids.take (ts.length + 1) = kids.take ts.length ++ [x] := by rw [List.take_add_one, hx]; rfl
   have happ := uM p.classes inn env (kids.take ts.length) x hall;rw [← htk] at happ;have hat := bA (f := cExpr) hx;obtain ⟨xk, xn, xm, xks⟩ := x;simp only [cExpr, aX] at hT hat;generalize xw p.classes inn env ⟨xk, xn, xm, xks⟩ = t at hT happ;refine Mg ?_;refine zm1 ?_;refine acs ?_;refine mU ?_;refine W.cond rfl ?_ ?_
   ·intro h;have h : (t.toList == []) = true := h;rw [if_pos (show isT t tNo = true by unfold isT; rw [eG]; exact h)] at happ;have hno : xw p.classes inn env ⟨k, nn, nm, kids⟩ = tNo := by
     have := uK p.classes inn env (kids.take (ts.length + 1)) (kids.drop (ts.length + 1)) happ;rw [List.take_append_drop] at this;rw [xw, this]
    rw [hno];exact Vn
   ·intro h;have h : (t.toList == []) = false := h;rw [if_neg (show ¬ isT t tNo = true by unfold isT; rw [eG, h]; decide)] at happ;refine W.go ?_;refine zm1 ?_;refine xs0 3 ?_;refine cK ah 9 rfl rfl rfl rfl rfl rfl rfl rfl nR rfl rfl rfl rfl (cu hkeep) (by simp [cStr]) xq (by decide) ?_;exact aax
  ·intro hge;replace hge := dnl hge;have htl : ts.length = kids.length := by omega
   rw [htl, List.take_length] at hall;have hty : xw p.classes inn env ⟨k, nn, nm, kids⟩ = jV p.classes inn env k nm ts := by rw [xw, hall]
   rw [hty];rw [← htl] at h1 h10 h2;refine W.go ?_;refine W.cond rfl ?_ ?_
   ·skip;intro h;obtain rfl : k = 6 := by simpa using h
    obtain ⟨a, rfl⟩ := Bh (h1 (by omega));refine YE ?_;refine W.cond rfl ?_ ?_
    ·intro h;have h : (a.toList == bO.toList) = true := h;refine zm6 ?_;simp only [Tryz.f129, aU, ay, toT, fin, exb, simprocAttr];rw [show jV p.classes inn env 6 nm [a] = gZ from if_pos h]
    ·intro h;have h : (a.toList == bO.toList) = false := h;refine zm6 ?_;simp only [Tryz.f129, aU, ay, toT, fin, exb, simprocAttr];rw [show jV p.classes inn env 6 nm [a] = tNo from if_neg (show ¬ isT a bO = true by unfold isT; rw [h]; decide)]
   intro h;have n6 : ¬ k = 6 := by simpa using h
   refine W.go ?_;refine W.cond rfl ?_ ?_
   ·skip;intro h;obtain rfl : k = 7 := by simpa using h
    obtain ⟨a, rfl⟩ := Bh (h1 (by omega));have hL : (bq 0 p.classes a).length ≤ 17 := by
     unfold bq;rw [if_pos rfl];exact MO
    have hF := nP hS (bq 0 p.classes a);have hF2 : (dh p.classes (bq 0 p.classes a)).length ≤ 1000000000 := by
     have := Nat.mul_le_mul_right 1048576 hL;omega
    refine W.bl ?_;refine zm5 ?_;refine aj 4 Pj ?_;refine av rfl rfl rfl rfl rfl (by simp) cw2 (Ew p hlen hchk hS a _) ?_;refine xs0 2 ?_;refine av rfl rfl rfl rfl rfl (by simp) cw2 (DC _ nm hF2 _) ?_;exact Ux
   intro h;have n7 : ¬ k = 7 := by simpa using h
   refine W.go ?_;refine W.cond rfl ?_ ?_
   ·skip;intro h;obtain rfl : k = 8 := by simpa using h
    obtain ⟨a, b, rfl⟩ := xM (h2 (by omega));have e1 : jV p.classes inn env 8 nm [a, b] = if (isT a gZ && isT b bO) = true then bO else tNo := rfl
    rw [e1];unfold isT;cases ha : (a.toList == gZ.toList) with
    | false =>
      repeat (first | refine W.q ?_ | refine W.g ?_ (by simp only [exb, simprocAttr, cStr, ha]; rfl))
      exact WL
    | true =>
      cases hb : (b.toList == bO.toList) with
      | false =>
        repeat (first | refine W.q ?_ | refine W.g ?_ UN)
        exact WL
      | true =>
        repeat (first | refine W.q ?_ | refine W.g ?_ UN)
        refine jA ?_;exact U3
   intro h;have n8 : ¬ k = 8 := by simpa using h
   refine W.go ?_;refine W.cond rfl ?_ ?_
   ·skip;intro h;obtain rfl : k = 9 := by simpa using h
    exact aaC
   intro h;have n9 : ¬ k = 9 := by simpa using h
   refine W.go ?_;refine W.cond rfl ?_ ?_
   ·skip;intro h;obtain rfl : k = 10 := by simpa using h
    obtain ⟨l0, lr, rfl⟩ : ∃ l0 lr, ts = l0 :: lr := by
     have hl1 := h10 rfl;match ts, hl1 with
     | l0 :: lr, _ => exact ⟨l0, lr, rfl⟩
    have hcall := Hf p hlen hS hchk nm l0 lr (by simp only [List.length_cons] at htl; omega);refine W.bl ?_;refine zm1 ?_;refine aj 4 gB ?_;refine av rfl rfl rfl rfl rfl (by simp) (bg dG (bg dG (bg (o8 rfl) jL))) (hcall _) ?_;exact Ux
   intro h;have n10 : ¬ k = 10 := by simpa using h
   refine W.go ?_;refine W.cond rfl ?_ ?_
   ·skip;intro h;obtain rfl : k = 12 := by simpa using h
    exact XU
   intro h;have n12 : ¬ k = 12 := by simpa using h
   refine W.go ?_;refine W.cond rfl ?_ ?_
   ·skip;intro h;obtain rfl : k = 13 := by simpa using h
    exact XU
   intro h;have n13 : ¬ k = 13 := by simpa using h
   refine W.go ?_;refine W.cond rfl ?_ ?_
   ·skip;intro h;obtain rfl : k = 14 := by simpa using h
    exact XU
   intro h;have n14 : ¬ k = 14 := by simpa using h
   refine W.go ?_;refine W.cond rfl ?_ ?_
   ·skip;intro h;obtain rfl : k = 15 := by simpa using h
    exact XU
   intro h;have n15 : ¬ k = 15 := by simpa using h
   refine W.go ?_;refine W.cond rfl ?_ ?_
   ·skip;intro h;obtain rfl : k = 16 := by simpa using h
    exact XU
   intro h;have n16 : ¬ k = 16 := by simpa using h
   refine W.go ?_;refine W.cond rfl ?_ ?_
   ·skip;intro h;obtain rfl : k = 17 := by simpa using h
    exact aaC
   intro h;have n17 : ¬ k = 17 := by simpa using h
   refine W.go ?_;refine W.cond rfl ?_ ?_
   ·skip;intro h;obtain rfl : k = 18 := by simpa using h
    obtain ⟨a, b, rfl⟩ := xM (h2 (by omega));refine W.bl ?_;refine zm5 ?_;refine aj 7 Pj ?_;refine av rfl rfl rfl rfl rfl (by simp) cw3 (Ia p hlen hchk a b _) ?_;exact Ux
   ·intro h;have n18 : ¬ k = 18 := by simpa using h
    have hkd : jV p.classes inn env k nm ts = ER p.classes inn env k nm := by simp [jV, n6, n7, n8, n9, n10, n12, n13, n14, n15, n16, n17, n18]
    rw [hkd];refine W.bl ?_;refine zm1 ?_;refine aj 4 gB ?_;refine av rfl rfl rfl rfl rfl (by simp) cw4 (hlf _) ?_;refine xe0 ?_;exact Vn
end
section
variable {P : Go.Program} {T : Tab} {kp : Nat → Prop} {base : Nat} {ops : Array Oper} {K : St → Prop}
theorem I4 {f' i : Nat} {listed : Array Bool} {st : St} {rl : List Nat} {o : Oper} (ho : ops[i]? = some o) {r : A} {c : Call} {x : Operand} {f : FuncId} {ids : List Nat} {args : List A} {d : Nat} (hd : o.dst = some d) (h : eH ops o st.s = some true) (hop : o.op = .call c) (hc : c.callee = .value x) (hx : ev st.s x = .fn f ids) (hb : ∀ j ∈ ids, ∃ ty cells, st.m j = some (.box ty cells))
 (ha : Cvs st.m (c.args.toList.map (ev st.s) ++ ids.map (A.ptr · 0)) args) (hk : COk P f args st.m r) (hr : kD P T kp base ops K f' (listed.setIfInBounds i true) ⟨upd st.s d r, st.m⟩) (tl : Steps P T kp base ops K f' listed st rl) : Steps P T kp base ops K f' listed st (i :: rl) :=
 ⟨⟨o, ⟨upd st.s d r, st.m⟩, ho, by
   have := HS.val (P := P) (T := T) (base := base) (ops := ops) (o := o) (kp := kp) (HV.call h hop hc hx hb ha hk);rw [hd] at this;exact this, hr⟩, tl⟩
end
theorem qg : ∀ a b : List Stmt, gF (a ++ b) = gF a ++ gF b
 | [], b => by simp [gF]
 | x :: a, b => by simp [gF, qg a b]
theorem FL : ∀ (n : Nat) (l : List Stmt), SizeOf.sizeOf l ≤ n → l.length ≤ 1048576 → eX 1048576 l → (gF l).length ≤ 1000000000 → ∀ m, COk Tryz.prog 80 [.c (.sl (l.map aW))] m (.c (.sl ((gF l).map aJ))) := by
 intro n;induction n using Nat.strongRecOn with
 | ind n ih =>
 intro l hn hl hS hd m;refine (aS ah Tryz.func80 (by kernel_rfl) rfl rfl (by rfl) (by rfl) (by rfl) (fun R hkeep => ?_) m);refine W.go ?_;refine W.mZ 3 3 46 2 rfl rfl ?_;refine W.loop (ι := Nat) (fun k => ⟨upd (upd (upd (upd (fun _ => .top) 3 (.own 3)) 6 (.c (.sl (l.map aW)))) 7 (.c (.int .i64 l.length))) 8 (.c (.int .i64 k)), upd Mem.nil 3 (some (.arr 46 2 ((gF (l.take k)).map aJ)))⟩)
  (fun k => k ≤ l.length) (fun k => l.length - k) 0 ?start (Nat.zero_le _) ?round
 case start =>
  refine iM ?sle ?mle (aQ hkeep)
  case mle => repeat (first | exact aV _ | exact aF _ | refine aT ?_ (by first | rfl | (simp only [ak, aB, Nat.reduceEqDiff, reduceIte, List.take_zero, gF, List.map_nil]; done)))
  case sle => repeat (first | exact aM _ | exact aH _ | refine aL ?_ (by first | rfl | (simp only [ak, aD, aC, Nat.reduceEqDiff, reduceIte, List.take_zero, gF, List.map_nil]; done)))
 case round =>
  intro k hk;refine W.go ?_;refine W.cond rfl ?_ ?_
  ·intro hlt;replace hlt := dtl hlt;obtain ⟨x, hx⟩ : ∃ x, l[k]? = some x := ⟨_, List.getElem?_eq_getElem hlt⟩;have hxm := List.mem_of_getElem? hx;have hxs := List.sizeOf_lt_of_mem hxm;have hSx := hS.mem hxm;have hat := bA (f := aW) hx;have htk : gF (l.take (k + 1)) = gF (l.take k) ++ KW x := by rw [List.take_add_one, hx, qg]; simp [gF]
   have hle : (gF (l.take (k + 1))).length ≤ (gF l).length := by
    have := congrArg List.length (qg (l.take (k + 1)) (l.drop (k + 1)));rw [List.take_append_drop, List.length_append] at this; omega
   obtain ⟨sk, sn, ty, nm, es, th, el⟩ := x;simp only [nW] at hSx;obtain ⟨-, -, q1, q2, q3, q4⟩ := hSx;have hspec := Stmt.mk.sizeOf_spec sk sn ty nm es th el;simp only [aW, bf, aX] at hat;simp only [KW] at htk;have hl3 := congrArg List.length htk;simp only [List.length_append] at hl3;have hTh := ih (SizeOf.sizeOf th) (by omega) th (Nat.le_refl _) q1 q2 (by omega);have hEl := ih (SizeOf.sizeOf el) (by omega) el (Nat.le_refl _) q3 q4 (by omega);refine Mg ?_;refine W.cond rfl ?_ ?_
   ·intro h;obtain rfl : sk = 1 := by simpa using h
    rw [if_pos rfl] at htk hl3;simp only [List.length_cons, List.length_nil] at hl3;refine W.bl ?_;refine zm1 ?_;refine xs0 7 ?_;refine cK ah 3 rfl rfl rfl rfl rfl rfl rfl rfl nR rfl rfl rfl rfl (cu hkeep) (by simp) xq (by decide) ?_;refine xe0 ?_;exact aan
   ·intro h;have n1 : ¬ sk = 1 := by simpa using h
    rw [if_neg n1] at htk hl3;simp only [List.length_nil] at hl3;exact aan
  ·intro hge;replace hge := dnl hge;obtain rfl : k = l.length := by omega
   rw [List.take_length];refine W.go ?_;refine W.rt ?_;simp only [Tryz.f80, aU, ay, toT, fin, exb, simprocAttr]
theorem FC (x : Method) (hb : x.body.length ≤ 1048576) (hS : eX 1048576 x.body) (hl : x.params.length + (gF x.body).length ≤ 1000000000) (m : Mem) : COk Tryz.prog 45 [.agg (aI x)] m (.c (.sl ((x.params ++ gF x.body).map aJ))) := by
 have hde := FL _ x.body (Nat.le_refl _) hb hS (by omega);obtain ⟨mty, mnm, ps, bd⟩ := x;dsimp only at hde hl ⊢;rw [← bf] at hde;refine (aS ah Tryz.func45 (by kernel_rfl) rfl rfl (by rfl) (by rfl) (by rfl) (fun R hkeep => ?_) m);refine Xx ?_;refine W.lZ ah bC ⟨upd (fun _ => .top) 2 (.own 2), upd Mem.nil 2 (some (.arr 46 2 ((ps ++ gF bd).map aJ)))⟩ ?_ ?_
 ·skip;refine vS (base := 0) ah (by decide) aK 0 rfl rfl dz rfl rfl aK aK ⟨_, fA, ?_⟩;refine vS (base := 0) ah (by decide) aK 3 rfl rfl dz rfl rfl aK aK ⟨_, fA, ?_⟩;refine sQ (base := 0) ah (by decide) ?_;refine aN 1 aK ⟨_, fA, ?_⟩;refine bY [2, 4] aK (by decide) ?_;refine gI ah rfl 2 true rfl rfl rfl rfl rfl rfl fE fE dz rfl rfl rfl rfl (by simp [aJ]) Ai (by decide) ?_ ?_
  ·skip;refine aN 4 aK ⟨_, fA, ?_⟩;exact YL
  ·skip;refine fH ⟨_, fA, ?_⟩ trivial;refine bY [2] aK (by decide) ?_;refine gI ah rfl 2 true rfl rfl rfl rfl rfl rfl fE fE dz rfl rfl rfl rfl (by simp [aJ]) Ai (by decide) ?_ ?_
   ·skip;exact YL
   ·trivial
 ·intro st' hle;refine W.weaken hle ?_;clear hle st';refine W.go ?_;refine W.rt ?_;simp only [Tryz.f45, aU, ay, toT, fin, exb, simprocAttr]
theorem vo (cs : List Class) (inn : ByteArray) (main : Bool) (ret : ByteArray) (env : List Slot) : ∀ (a b : List Stmt), dK cs inn main ret env (a ++ b) = (dK cs inn main ret env a && dK cs inn main ret (jl env a) b) := by
 intro a;induction a generalizing env with
 | nil => intro b; simp [dK, jl]
 | cons y a ih => intro b; rw [List.cons_append, dK, dK, jl, ih, Bool.and_assoc]
section
variable (p : Program) (hlen : p.classes.length ≤ 16) (hS : fu p.classes) (hchk : ∀ m, COk Tryz.prog 21 [.agg (bI p)] m (.c (.int .i64 0)))
include hlen hS hchk
set_option maxHeartbeats 4000000 in
theorem Gh (inn : ByteArray) (mm : Method) (main : Bool) (env : List Slot) (henv : env.length ≤ 1000000000) (sk sn : Int) (ty nm : ByteArray) (es : List Expr) (th el : List Stmt) (s2 : sk = 2 → es.length = 2) (s3 : sk = 3 ∨ sk = 4 ∨ sk = 5 ∨ sk = 6 → 1 ≤ es.length) (hel : es.length ≤ 1048576) (hY : oP es) (hK : nC es) (m : Mem) :
 COk Tryz.prog 81 [.agg (bI p), .c (.str inn), .agg (aI mm), .c (.bool main), .c (.sl (env.map aJ)), .agg (aW ⟨sk, sn, ty, nm, es, th, el⟩)] m (.c (.bool (pz p.classes inn main mm.type env sk ty es))) := by
 have hcp : bI p = [.sl (p.classes.map au), .sl (aO p.main)] := rfl
 obtain ⟨mty, mnm, mps, mbd⟩ := mm
 simp only [aW, bf, aX]
 refine (aS ah Tryz.func81 (by kernel_rfl) rfl rfl (by rfl) (by rfl) (by rfl) (fun R hkeep => ?_) m)
 repeat (first | refine W.q ?_ | refine W.g ?_ (by simp only [exb, simprocAttr, hcp, aI]; rfl))
 refine W.mZ 13 13 9 1 rfl rfl ?_
 refine W.loop (ι := List ByteArray) (fun ts => ⟨upd (upd (upd (upd (upd (upd (upd (upd (upd (upd (fun _ => .top) 1 (.c (.str inn))) 3 (.c (.bool main))) 4 (.c (.sl (env.map aJ)))) 6 (.ptr 6 0)) 8 (.ptr 8 0)) 11 (.ptr 11 0)) 13 (.own 13)) 18 (.c (.sl (es.map cExpr)))) 19 (.c (.int .i64 es.length))) 20 (.c (.int .i64 ts.length)),
  upd (upd (upd (upd Mem.nil 6 (some (.box 25 [.c (.sl (p.classes.map au)), .c (.sl (aO p.main))]))) 8 (some (.box 44 [.c (.str mty), .c (.str mnm), .c (.sl (mps.map aJ)), .c (.sl (aO mbd))]))) 11 (some (.box 37 [.c (.int .i64 sk), .c (.int .i64 sn), .c (.str ty), .c (.str nm), .c (.sl (es.map cExpr)), .c (.sl (th.map aW)), .c (.sl (el.map aW))]))) 13 (some (.arr 9 1 (ts.map cStr)))⟩)
  (fun ts => ts.length ≤ es.length ∧ jk p.classes inn env (es.take ts.length) = some ts) (fun ts => es.length - ts.length) [] ?start ⟨Nat.zero_le _, by simp [jk]⟩ ?round
 case start =>
  exact Ae
 case round =>
  rintro ts ⟨hkt, hall⟩;refine W.go ?_;refine W.cond rfl ?_ ?_
  ·intro hlt;replace hlt := dtl hlt;obtain ⟨x, hx⟩ : ∃ x, es[ts.length]? = some x := ⟨_, List.getElem?_eq_getElem hlt⟩;have hxm := List.mem_of_getElem? hx;have hT := LH p hlen hS hchk inn env henv _ x (Nat.le_refl _) (hY.mem hxm) (hK.mem hxm);have htk : es.take (ts.length + 1) = es.take ts.length ++ [x] := by rw [List.take_add_one, hx]; rfl
   have happ := uM p.classes inn env (es.take ts.length) x hall;rw [← htk] at happ;have hat := bA (f := cExpr) hx;obtain ⟨xk, xn, xm, xks⟩ := x;simp only [cExpr, aX] at hT hat;generalize xw p.classes inn env ⟨xk, xn, xm, xks⟩ = t at hT happ;refine Mg ?_;refine zm1 ?_;refine acs ?_;refine mU ?_;refine W.cond rfl ?_ ?_
   ·intro h;have h : (t.toList == []) = true := h;rw [if_pos (show isT t tNo = true by unfold isT; rw [eG]; exact h)] at happ;have hno : pz p.classes inn main mty env sk ty es = false := by
     have := uK p.classes inn env (es.take (ts.length + 1)) (es.drop (ts.length + 1)) happ;rw [List.take_append_drop] at this;unfold pz; rw [this]
    rw [hno];refine W.go ?_;refine W.rt ?_;simp only [Tryz.f81, aU, ay, toT, fin, exb, simprocAttr]
   ·intro h;have h : (t.toList == []) = false := h;rw [if_neg (show ¬ isT t tNo = true by unfold isT; rw [eG, h]; decide)] at happ;refine W.go ?_;refine zm1 ?_;refine xs0 3 ?_;refine cK ah 13 rfl rfl rfl rfl rfl rfl rfl rfl nR rfl rfl rfl rfl (cu hkeep) (by simp [cStr]) xq (by decide) ?_;exact aax
  ·intro hge;replace hge := dnl hge;have htl : ts.length = es.length := by omega
   rw [htl, List.take_length] at hall;have hrd : pz p.classes inn main mty env sk ty es = wZ p.classes main mty sk ty ts := by unfold pz; rw [hall]
   rw [hrd];rw [← htl] at s2 s3;refine W.go ?_;refine W.cond rfl ?_ ?_
   ·skip;intro h;obtain rfl : sk = 1 := by simpa using h
    have hrk : wZ p.classes main mty 1 ty ts = (bJ p.classes ty && (ts.isEmpty || qQ 0 p.classes (hdT ts) ty)) := rfl;rw [hrk];have hkn := lg p.classes (.sl (aO p.main)) ty (by omega);generalize bJ p.classes ty = K at hkn;refine W.bl ?_;refine zm5 ?_;cases K with
    | false =>
      refine aj 3 gB ?_;refine Sb ?_;exact Nh
    | true =>
      refine aj 3 gB ?_;refine Sb ?_;match ts with
      | [] =>
        exact Nh
      | a :: tr =>
        have hne : ((((tr.length + 1 : Nat) : Int) == 0)) = false := by simp; omega
        have hne2 : (decide ((((tr.length + 1 : Nat) : Int)) = 0)) = false := by simp; omega
        have hfi := fun m => kN p 0 a ty (by omega) hchk m
        refine aj 11 (by simp only [exb, simprocAttr, hcp, List.map_cons, List.length_cons, List.length_map, hne, hne2, cStr]; rfl) ?_;exact Uj
   intro h;have n1 : ¬ sk = 1 := by simpa using h
   refine W.go ?_;refine W.cond rfl ?_ ?_
   ·skip;intro h;obtain rfl : sk = 2 := by simpa using h
    obtain ⟨a, b, rfl⟩ := xM (s2 rfl);have hfi := fun m => kN p 0 b a (by omega) hchk m
    refine W.bl ?_;refine zm5 ?_;refine aj 7 Pj ?_;exact Uj
   intro h;have n2 : ¬ sk = 2 := by simpa using h
   refine W.go ?_;refine W.cond rfl ?_ ?_
   ·skip;intro h;obtain rfl : sk = 3 := by simpa using h
    have hs3 := s3 (by omega);refine W.go ?_;refine jA ?_;obtain ⟨a, tr, rfl⟩ : ∃ a tr, ts = a :: tr := by
     exact Um
    refine YE ?_;exact Ny
   intro h;have n3 : ¬ sk = 3 := by simpa using h
   refine W.go ?_;refine W.cond rfl ?_ ?_
   ·skip;intro h;obtain rfl : sk = 4 := by simpa using h
    have hs3 := s3 (by omega);refine W.go ?_;refine jA ?_;obtain ⟨a, tr, rfl⟩ : ∃ a tr, ts = a :: tr := by
     exact Um
    refine YE ?_;exact Ny
   intro h;have n4 : ¬ sk = 4 := by simpa using h
   refine W.go ?_;refine W.cond rfl ?_ ?_
   ·skip;intro h;obtain rfl : sk = 5 := by simpa using h
    have hs3 := s3 (by omega);obtain ⟨a, tr, rfl⟩ : ∃ a tr, ts = a :: tr := by
     exact Um
    refine YE ?_;exact Ny
   intro h;have n5 : ¬ sk = 5 := by simpa using h
   refine W.go ?_;refine W.cond rfl ?_ ?_
   ·skip;intro h;obtain rfl : sk = 6 := by simpa using h
    have hs3 := s3 (by omega);obtain ⟨a, tr, rfl⟩ : ∃ a tr, ts = a :: tr := by
     exact Um
    have hz2 : (0 < tr.length + 1) = True := eq_true (Nat.succ_pos _);have hfi := fun m => kN p 0 a mty (by omega) hchk m
    refine W.bl ?_;refine zm5 ?_;cases main with
    | true =>
      exact Nh
    | false =>
      refine aj 9 (by simp only [exb, simprocAttr, hcp, cStr, List.map_cons, List.length_cons, List.length_map, hz2]; rfl) ?_;exact Uj
   ·intro h;have n6 : ¬ sk = 6 := by simpa using h
    refine zm6 ?_;simp only [Tryz.f81, aU, ay, toT, fin, exb, simprocAttr];simp [wZ, n1, n2, n3, n4, n5, n6]
set_option maxHeartbeats 4000000 in
theorem EX (inn : ByteArray) (mm : Method) (main : Bool) : ∀ (n : Nat) (l : List Stmt), SizeOf.sizeOf l ≤ n → lu l → jF l → ∀ (env : List Slot), env.length + dF l ≤ 100000000 → ∀ m, COk Tryz.prog 46 [.agg (bI p), .c (.str inn), .agg (aI mm), .c (.bool main), .c (.sl (env.map aJ)), .c (.sl (l.map aW))] m (.c (.bool (dK p.classes inn main mm.type env l))) := by
 have hcp : bI p = [.sl (p.classes.map au), .sl (aO p.main)] := rfl;intro n;induction n using Nat.strongRecOn with
 | ind n ih =>
 intro l hn hY hK env hcnt m;have hRg := fun (E : List Slot) hE sk sn ty nm es th el a b c d e => Gh p hlen hS hchk inn mm main E hE sk sn ty nm es th el a b c d e
 obtain ⟨mty, mnm, mps, mbd⟩ := mm;have hcm : aI ⟨mty, mnm, mps, mbd⟩ = [.str mty, .str mnm, .sl (mps.map aJ), .sl (aO mbd)] := rfl;rw [hcm] at ih hRg ⊢;dsimp only at ih hRg ⊢;have hll : l.length ≤ 100000000 := by have := oJ l; omega
 refine (aS ah Tryz.func46 (by kernel_rfl) rfl rfl (by rfl) (by rfl) (by rfl) (fun R hkeep => ?_) m);refine KE ?_;refine W.bl ?_;refine zm1 ?_;refine xs0 1 ?_;refine Bf ah 16 true rfl rfl rfl rfl rfl rfl rfl (by simp only [exb, simprocAttr]) nR rfl rfl rfl rfl (by simp [aJ]) Ai (by decide) ?_;refine mU ?_;refine W.loop (ι := Nat) (fun k => ⟨upd (upd (upd (upd (upd (upd (upd (upd (fun _ => .top) 1 (.c (.str inn))) 3 (.c (.bool main))) 4 (.own 16)) 6 (.ptr 6 0)) 8 (.ptr 8 0)) 17 (.c (.sl (l.map aW)))) 18 (.c (.int .i64 l.length))) 19 (.c (.int .i64 k)),
  upd (upd (upd Mem.nil 6 (some (.box 25 [.c (.sl (p.classes.map au)), .c (.sl (aO p.main))]))) 8 (some (.box 44 [.c (.str mty), .c (.str mnm), .c (.sl (mps.map aJ)), .c (.sl (aO mbd))]))) 16 (some (.arr 46 2 ((jl env (l.take k)).map aJ)))⟩)
  (fun k => k ≤ l.length ∧ dK p.classes inn main mty env (l.take k) = true) (fun k => l.length - k) 0 ?start ⟨Nat.zero_le _, by simp [dK]⟩ ?round
 case start =>
  refine iM ?sle ?mle (aQ hkeep)
  case mle => repeat (first | exact aV _ | exact aF _ | refine aT ?_ (by first | rfl | (simp only [ak, aB, Nat.reduceEqDiff, reduceIte, List.take_zero, jl, dW]; done)))
  case sle => repeat (first | exact aM _ | exact aH _ | refine aL ?_ (by first | rfl | (simp only [ak, aD, aC, Nat.reduceEqDiff, reduceIte, List.take_zero, jl, dW]; done)))
 case round =>
  rintro k ⟨hkl, hyes⟩;refine W.go ?_;refine W.cond rfl ?_ ?_
  ·intro hlt;replace hlt := dtl hlt;obtain ⟨x, hx⟩ : ∃ x, l[k]? = some x := ⟨_, List.getElem?_eq_getElem hlt⟩;have hxm := List.mem_of_getElem? hx;have hxs := List.sizeOf_lt_of_mem hxm;have hKx := hK.mem hxm;have hYx := hY.mem hxm;have hat := bA (f := aW) hx;have htk : l.take (k + 1) = l.take k ++ [x] := by rw [List.take_add_one, hx]; rfl
   have hsp : l = l.take k ++ (x :: l.drop (k + 1)) := by have h1 := List.take_append_drop (k + 1) l; rw [htk, List.append_assoc] at h1; exact h1.symm
   have hcx := p9 (l.take k) (x :: l.drop (k + 1));rw [← hsp] at hcx;have hkc := oJ (l.take k);have hEl := FW env (l.take k);obtain ⟨sk, sn, ty, nm, es, th, el⟩ := x;simp only [CO] at hKx;obtain ⟨s2, s3, s4, s5, s6, s7⟩ := hKx;simp only [IJ] at hYx;obtain ⟨y1, y2, y3⟩ := hYx;have hspec := Stmt.mk.sizeOf_spec sk sn ty nm es th el;simp only [aW, bf, aX] at hat;rw [dF, lG] at hcx;have hno2 : uO p.classes inn main mty (jl env (l.take k)) ⟨sk, sn, ty, nm, es, th, el⟩ = false → dK p.classes inn main mty env l = false := fun h => by
    rw [hsp, vo, hyes, Bool.true_and, dK, h, Bool.false_and]
   have hyes2 : uO p.classes inn main mty (jl env (l.take k)) ⟨sk, sn, ty, nm, es, th, el⟩ = true → dK p.classes inn main mty env (l.take (k + 1)) = true := fun h => by
    rw [htk, vo, hyes, Bool.true_and, dK, dK, h]; rfl
   have hst : uO p.classes inn main mty (jl env (l.take k)) ⟨sk, sn, ty, nm, es, th, el⟩ = (pz p.classes inn main mty (jl env (l.take k)) sk ty es && dK p.classes inn main mty (jl env (l.take k)) th && dK p.classes inn main mty (jl env (l.take k)) el) := by rw [uO]
   have hE1 : jl env (l.take (k + 1)) = (if sk = 1 then jl env (l.take k) ++ [⟨ty, nm⟩] else jl env (l.take k)) := by rw [htk, yc]
   rw [hst] at hno2 hyes2;generalize jl env (l.take k) = E at *;have hlk : (l.take k).length = k := by rw [List.length_take]; omega
   have hR := hRg E (by omega) sk sn ty nm es th el s2 s3 s4 y1 s5;have hB1 := ih (SizeOf.sizeOf th) (by omega) th (Nat.le_refl _) y2 s6 E (by omega);have hB2 := ih (SizeOf.sizeOf el) (by omega) el (Nat.le_refl _) y3 s7 E (by omega);have hcs : aW ⟨sk, sn, ty, nm, es, th, el⟩ = [.int .i64 sk, .int .i64 sn, .str ty, .str nm, .sl (es.map cExpr), .sl (th.map aW), .sl (el.map aW)] := by simp only [aW, bf, aX]
   rw [hcs] at hR;generalize pz p.classes inn main mty E sk ty es = V1 at *;generalize dK p.classes inn main mty E th = V2 at *;generalize dK p.classes inn main mty E el = V3 at *;refine Mg ?_;refine zm1 ?_;cases V1 with
   | false =>
     refine Ze ?_;exact V8
   | true =>
     refine Ze ?_;cases V2 with
     | false =>
       refine Yh ?_;exact V8
     | true =>
       refine Yh ?_;cases V3 with
       | false =>
         refine abe ?_;exact V8
       | true =>
         refine abe ?_;refine xe0 ?_;refine W.cf rfl ?_;have hyes3 := hyes2 rfl;refine W.go ?_;refine W.cond rfl ?_ ?_
         ·skip;intro h;obtain rfl : sk = 1 := by simpa using h
          rw [if_pos rfl] at hE1;refine W.bl ?_;refine zm1 ?_;refine xs0 7 ?_;refine cK ah 16 rfl rfl rfl rfl rfl rfl rfl rfl nR rfl rfl rfl rfl (cu hkeep) (by simp) xq (by decide) ?_;refine mU ?_;refine ⟨k + 1, ⟨hlt, hyes3⟩, by omega, ?_⟩;rw [hE1];refine iM ?sle ?mle (aQ hkeep)
          case mle => repeat (first | exact aV _ | exact aF _ | refine aT ?_ (by first | rfl | (simp only [ak, aB, Nat.reduceEqDiff, reduceIte, List.map_append, List.map_cons, List.map_nil, aJ, aP (show k + 1 < 9223372036854775808 by omega)]; done)))
          case sle => repeat (first | exact aM _ | exact aH _ | refine aL ?_ (by first | rfl | (simp only [ak, aD, aC, Nat.reduceEqDiff, reduceIte, List.map_append, List.map_cons, List.map_nil, aJ, aP (show k + 1 < 9223372036854775808 by omega)]; done)))
         ·intro h;have n1 : ¬ sk = 1 := by simpa using h
          rw [if_neg n1] at hE1;refine W.go ?_;refine ⟨k + 1, ⟨hlt, hyes3⟩, by omega, ?_⟩;rw [hE1];exact O9
  ·intro hge;replace hge := dnl hge;obtain rfl : k = l.length := by omega
   rw [List.take_length] at hyes;rw [hyes];exact U1
end
theorem MH : ∀ (n : Nat) (l : List Stmt), SizeOf.sizeOf l ≤ n → (gF l).length ≤ dF l := by
 intro n;induction n with
 | zero => intro l hl; cases l <;> simp at hl
 | succ n ih =>
   intro l hl;cases l with
   | nil => simp [gF]
   | cons x l =>
     obtain ⟨k, nn, ty, nm, es, th, el⟩ := x;simp only [List.cons.sizeOf_spec, Stmt.mk.sizeOf_spec] at hl;have h1 := ih th (by omega);have h2 := ih el (by omega);have h3 := ih l (by omega);simp only [gF, KW, dF, lG, List.length_append];have h4 : (if k = 1 then ([⟨ty, nm⟩] : List Slot) else []).length ≤ 1 := by split <;> simp
     omega
section
variable (p : Program) (hlen : p.classes.length ≤ 16) (hS : fu p.classes) (hchk : ∀ m, COk Tryz.prog 21 [.agg (bI p)] m (.c (.int .i64 0)))
include hlen hS hchk
theorem AQ (inn : ByteArray) (mm : Method) (main : Bool) (hbl : mm.body.length ≤ 1048576) (hbs : eX 1048576 mm.body) (hY : lu mm.body) (hK : jF mm.body) (hcnt : mm.params.length + dF mm.body ≤ 100000000) (m : Mem) :
 COk Tryz.prog 22 [.agg (bI p), .c (.str inn), .agg (aI mm), .c (.bool main)] m (.c (.bool (kK p.classes inn main mm.type mm.params mm.body))) := by
 have hcp : bI p = [.sl (p.classes.map au), .sl (aO p.main)] := rfl
 have hdl := MH _ mm.body (Nat.le_refl _)
 have hD := FC mm hbl hbs (by omega)
 have hB := EX p hlen hS hchk inn mm main _ mm.body (Nat.le_refl _) hY hK mm.params hcnt
 have hmd : kK p.classes inn main mm.type mm.params mm.body = (!(jO (mm.params ++ gF mm.body)) && dK p.classes inn main mm.type mm.params mm.body) := rfl
 rw [hmd]
 generalize dK p.classes inn main mm.type mm.params mm.body = V at hB
 have hll : (mm.params ++ gF mm.body).length ≤ 1000000000 := by rw [List.length_append]; omega
 generalize mm.params ++ gF mm.body = l at hD hll
 obtain ⟨mty, mnm, mps, mbd⟩ := mm
 have hcm : aI ⟨mty, mnm, mps, mbd⟩ = [.str mty, .str mnm, .sl (mps.map aJ), .sl (aO mbd)] := rfl
 rw [hcm] at hB hD ⊢
 dsimp only at hB hD ⊢
 rw [← bf] at hB
 refine (aS ah Tryz.func22 (by kernel_rfl) rfl rfl (by rfl) (by rfl) (by rfl) (fun R hkeep => ?_) m)
 repeat (first | refine W.q ?_ | refine W.g ?_ gB)
 refine W.bl ?_
 refine W.bR ah 0 (by decide) ?_
 refine xs0 1 ?_
 refine av rfl rfl rfl rfl rfl (by simp) cw1 (hD _) ?_
 refine xe0 ?_
 refine W.go ?_
 refine W.loop (ι := Nat) (fun i => ⟨upd (upd (upd (upd (upd (upd (upd (upd (fun _ => .top) 1 (.c (.str inn))) 3 (.c (.bool main))) 4 (.ptr 4 0)) 6 (.ptr 6 0)) 9 (.c (.sl (l.map aJ)))) 14 (.c (.sl (l.map aJ)))) 15 (.c (.int .i64 l.length))) 16 (.c (.int .i64 i)),
  upd (upd Mem.nil 4 (some (.box 25 [.c (.sl (p.classes.map au)), .c (.sl (aO p.main))]))) 6 (some (.box 44 [.c (.str mty), .c (.str mnm), .c (.sl (mps.map aJ)), .c (.sl (aO mbd))]))⟩)
  (fun i => i ≤ l.length ∧ ∀ j < i, (List.range j).any (Bz l j) = false) (fun i => l.length - i) 0 ?start ⟨Nat.zero_le _, fun j hj => by omega⟩ ?round
 case start =>
  exact Ae
 case round =>
  rintro i ⟨hi, hall⟩;refine W.go ?_;refine W.cond rfl ?_ ?_
  ·intro hlt;replace hlt := dtl hlt;obtain ⟨x, hx⟩ : ∃ x, l[i]? = some x := ⟨_, List.getElem?_eq_getElem hlt⟩;refine W.go ?_;refine W.loop (ι := Nat) (fun k => ⟨upd (upd (upd (upd (upd (upd (upd (upd (upd (upd (upd (fun _ => .top) 1 (.c (.str inn))) 3 (.c (.bool main))) 4 (.ptr 4 0)) 6 (.ptr 6 0)) 9 (.c (.sl (l.map aJ)))) 14 (.c (.sl (l.map aJ)))) 15 (.c (.int .i64 l.length))) 16 (.c (.int .i64 i))) 10 (.c (.int .i64 i))) 19 (.c (.int .i64 i))) 20 (.c (.int .i64 k)),
    upd (upd Mem.nil 4 (some (.box 25 [.c (.sl (p.classes.map au)), .c (.sl (aO p.main))]))) 6 (some (.box 44 [.c (.str mty), .c (.str mnm), .c (.sl (mps.map aJ)), .c (.sl (aO mbd))]))⟩)
    (fun k => k ≤ i ∧ ∀ j < k, Bz l i j = false) (fun k => i - k) 0 ?start ⟨Nat.zero_le _, fun j hj => by omega⟩ ?round
   case start =>
    exact Ae
   case round =>
    rintro k ⟨hk, hin⟩;refine W.go ?_;refine W.cond rfl ?_ ?_
    ·intro hlk;replace hlk := dtl hlk;obtain ⟨y, hy⟩ : ∃ y, l[k]? = some y := ⟨_, List.getElem?_eq_getElem (by omega)⟩;have he : Bz l i k = (x.name.toList == y.name.toList) := by simp [Bz, hx, hy]
     refine W.go ?_;refine zm5 ?_;refine aA Wm ?_;refine W.cond rfl ?_ ?_
     ·intro heq;refine zm6 ?_;simp only [Tryz.f22, aU, ay, toT, fin, exb, simprocAttr];have : jO l = true := sZ hlt (sZ hlk (he.trans heq));rw [this]; rfl
     ·exact X9
    ·exact ZK
  ·intro hge;replace hge := dnl hge;obtain rfl : i = l.length := by omega
   have h2 : jO l = false := uX hall;refine W.go ?_;refine W.bl ?_;refine zm1 ?_;refine aj 8 gB ?_;refine av rfl rfl rfl rfl rfl (by simp) cw6 (hB _) ?_;refine xe0 ?_;refine zm6 ?_;simp only [Tryz.f22, aU, ay, toT, fin, exb, simprocAttr];rw [h2]; rfl
end
structure SmallP (p : Program) : Prop where
 main : p.main.length ≤ 1048576 ∧ eX 1048576 p.main ∧ dF p.main ≤ 1048576
 meth : ∀ c ∈ p.classes, ∀ m ∈ c.methods, m.body.length ≤ 1048576 ∧ eX 1048576 m.body ∧ dF m.body ≤ 1048576
set_option maxHeartbeats 4000000 in
theorem DY (p : Program) (hS : fu p.classes) (hP : SmallP p) (hlen : p.classes.length ≤ 1048576) (m : Mem) : COk Tryz.prog 10 [.agg (bI p)] m (.c (.int .i64 (ED p))) := by
 have hcp : bI p = [.sl (p.classes.map au), .sl (aO p.main)] := rfl;have hchk := Lf p hS hlen;unfold ED;obtain ⟨E, hE⟩ : ∃ E, eO (oh p) p.classes = E := ⟨_, rfl⟩;rw [hE] at hchk ⊢;refine (aS ah Tryz.func10 (by kernel_rfl) rfl rfl (by rfl) (by rfl) (by rfl) (fun R hkeep => ?_) m);refine KE ?_;refine W.bl ?_;refine zm1 ?_;refine aj 1 gB ?_;refine av rfl rfl rfl rfl rfl (by simp) cw1 (hchk _) ?_;refine mU ?_;refine W.cond rfl ?_ ?_
 ·intro h;have he : E ≠ 0 := by simpa using h
  rw [if_neg he];refine W.go ?_;refine W.rt ?_;simp only [Tryz.f10, aU, ay, toT, fin, exb, simprocAttr]
 intro h;obtain rfl : E = 0 := by simpa using h
 rw [if_pos rfl];have h16 : p.classes.length ≤ 16 := by
  exact U6
 obtain ⟨my, mk⟩ := Ed hE;have hmm := AQ p h16 hS hchk tNo ⟨tNo, tNo, [], p.main⟩ true hP.main.1 hP.main.2.1 my mk Uv;have hcm : aI ⟨tNo, tNo, [], p.main⟩ = [.str tNo, .str tNo, .sl [], .sl (aO p.main)] := rfl;rw [hcm] at hmm;dsimp only at hmm;have hpd : Eb p = (kK p.classes tNo true tNo [] p.main && p.classes.all (iI p.classes)) := rfl;rw [hpd];generalize kK p.classes tNo true tNo [] p.main = V0 at hmm;have key : ∀ (b : Bool), (if b = true then (0 : Int) else 70) = (if b = true then 0 else 70) := fun _ => rfl
 refine W.go ?_;refine W.bl ?_;refine zm1 ?_;refine aj 4 gB ?_;refine av rfl rfl rfl rfl rfl (by simp) cw4 (hmm _) ?_;refine mU ?_;refine W.loop (ι := Nat) (fun k => ⟨upd (upd (upd (upd (upd (fun _ => .top) 1 (.ptr 1 0)) 4 (.c (.bool (V0 && (p.classes.take k).all (iI p.classes))))) 24 (.c (.sl (p.classes.map au)))) 25 (.c (.int .i64 p.classes.length))) 26 (.c (.int .i64 k)),
  upd Mem.nil 1 (some (.box 25 [.c (.sl (p.classes.map au)), .c (.sl (aO p.main))]))⟩)
  (fun k => k ≤ p.classes.length) (fun k => p.classes.length - k) 0 ?start (Nat.zero_le _) ?round
 case start =>
  refine iM ?sle ?mle (aQ hkeep)
  case mle => repeat (first | exact aV _ | exact aF _ | refine aT ?_ (by first | rfl | (simp only [ak, aB, Nat.reduceEqDiff, reduceIte, List.take_zero, List.all_nil, Bool.and_true]; done)))
  case sle => repeat (first | exact aM _ | exact aH _ | refine aL ?_ (by first | rfl | (simp only [ak, aD, aC, Nat.reduceEqDiff, reduceIte, List.take_zero, List.all_nil, Bool.and_true]; done)))
 case round =>
  intro k hk;refine W.go ?_;refine W.cond rfl ?_ ?_
  ·intro hlt;replace hlt := dtl hlt;obtain ⟨c, hx⟩ : ∃ c, p.classes[k]? = some c := ⟨_, List.getElem?_eq_getElem hlt⟩;have hcm := List.mem_of_getElem? hx;have hat := bA (f := au) hx;have hall : (p.classes.take (k + 1)).all (iI p.classes) = ((p.classes.take k).all (iI p.classes) && iI p.classes c) := by
    rw [List.take_add_one, hx, List.all_append]; simp
   have hcd : iI p.classes c = (c.fields.all (fun s => bJ p.classes s.type) && c.methods.all fun m => m.params.all (fun s => bJ p.classes s.type) && (bJ p.classes m.type && kK p.classes c.name false m.type m.params m.body)) := rfl;have hall2c : (V0 && (p.classes.take (k + 1)).all (iI p.classes)) = ((V0 && (p.classes.take k).all (iI p.classes)) && iI p.classes c) := by rw [hall, Bool.and_assoc]
   generalize (V0 && (p.classes.take k).all (iI p.classes)) = V1 at *;have hbd := fun x hx => xP hE hcm (m := x) hx
   have hbs := hP.meth c hcm;have hcs := hS c hcm;obtain ⟨cn, csu, cfs, cms⟩ := c;simp only [au] at hat;dsimp only at hcd hbd hbs hcs;refine Mg ?_;refine W.loop (ι := Nat × Bool) (fun q => ⟨upd (upd (upd (upd (upd (upd (upd (upd (upd (fun _ => .top) 1 (.ptr 1 0)) 4 (.c (.bool q.2))) 24 (.c (.sl (p.classes.map au)))) 25 (.c (.int .i64 p.classes.length))) 26 (.c (.int .i64 k))) 6 (.ptr 6 0)) 31 (.c (.sl (cfs.map aJ)))) 32 (.c (.int .i64 cfs.length))) 33 (.c (.int .i64 q.1)),
    upd (upd Mem.nil 1 (some (.box 25 [.c (.sl (p.classes.map au)), .c (.sl (aO p.main))]))) 6 (some (.box 42 [.c (.str cn), .c (.str csu), .c (.sl (cfs.map aJ)), .c (.sl (cms.map aI))]))⟩)
    (fun q => q.1 ≤ cfs.length ∧ q.2 = (V1 && (cfs.take q.1).all (fun s => bJ p.classes s.type))) (fun q => cfs.length - q.1) (0, V1) ?start ⟨Nat.zero_le _, by simp⟩ ?round
   case start =>
    exact Ae
   case round =>
    rintro ⟨j, b⟩ ⟨hj, hb⟩;dsimp only at hj hb ⊢;refine W.go ?_;refine W.cond rfl ?_ ?_
    ·intro hlj;replace hlj := dtl hlj;obtain ⟨s, hs⟩ : ∃ s, cfs[j]? = some s := ⟨_, List.getElem?_eq_getElem hlj⟩;have hall2 : (V1 && (cfs.take (j + 1)).all (fun s => bJ p.classes s.type)) = (b && bJ p.classes s.type) := by
      rw [hb, List.take_add_one, hs, List.all_append, Bool.and_assoc]; simp
     have hsat := bA (f := aJ) hs;simp only [aJ] at hsat;have hkn := lg p.classes (.sl (aO p.main)) s.type (by omega);generalize bJ p.classes s.type = KN at hkn hall2;cases b with
     | false =>
       exact aap
     | true =>
       exact aa6
    ·intro hge;replace hge := dnl hge;obtain rfl : j = cfs.length := by omega
     rw [List.take_length] at hb;refine W.go ?_;refine W.loop (ι := Nat × Bool) (fun q => ⟨upd (upd (upd (upd (upd (upd (upd (upd (upd (fun _ => .top) 1 (.ptr 1 0)) 4 (.c (.bool q.2))) 24 (.c (.sl (p.classes.map au)))) 25 (.c (.int .i64 p.classes.length))) 26 (.c (.int .i64 k))) 6 (.ptr 6 0)) 46 (.c (.sl (cms.map aI)))) 47 (.c (.int .i64 cms.length))) 48 (.c (.int .i64 q.1)),
      upd (upd Mem.nil 1 (some (.box 25 [.c (.sl (p.classes.map au)), .c (.sl (aO p.main))]))) 6 (some (.box 42 [.c (.str cn), .c (.str csu), .c (.sl (cfs.map aJ)), .c (.sl (cms.map aI))]))⟩)
      (fun q => q.1 ≤ cms.length ∧ q.2 = (b && (cms.take q.1).all (fun m => m.params.all (fun s => bJ p.classes s.type) && (bJ p.classes m.type && kK p.classes cn false m.type m.params m.body)))) (fun q => cms.length - q.1) (0, b) ?start ⟨Nat.zero_le _, by simp⟩ ?round
     case start =>
      exact Ae
     case round =>
      rintro ⟨i, b1⟩ ⟨hi, hb1⟩;dsimp only at hi hb1 ⊢;refine W.go ?_;refine W.cond rfl ?_ ?_
      ·intro hli;replace hli := dtl hli;obtain ⟨mm, hmi⟩ : ∃ mm, cms[i]? = some mm := ⟨_, List.getElem?_eq_getElem hli⟩;have hmm := List.mem_of_getElem? hmi;obtain ⟨by1, by2⟩ := hbd mm hmm;obtain ⟨bs1, bs2, bs3⟩ := hbs mm hmm;have hps := hcs.2.2 mm hmm;have hall3 : (b && (cms.take (i + 1)).all (fun m => m.params.all (fun s => bJ p.classes s.type) && (bJ p.classes m.type && kK p.classes cn false m.type m.params m.body))) = (b1 && (mm.params.all (fun s => bJ p.classes s.type) && (bJ p.classes mm.type && kK p.classes cn false mm.type mm.params mm.body))) := by
        rw [hb1, List.take_add_one, hmi, List.all_append, Bool.and_assoc]; simp
       have hme := AQ p h16 hS hchk cn mm false bs1 bs2 by1 by2 (by omega);have hkt := lg p.classes (.sl (aO p.main)) mm.type (by omega);have hmat := bA (f := aI) hmi;obtain ⟨mty, mnm, mps, mbd⟩ := mm;simp only [aI] at hmat hme;dsimp only at hall3 hps hkt hme
       repeat (first | refine W.q ?_ | refine W.g ?_ WJ)
       refine W.loop (ι := Nat × Bool) (fun q => ⟨upd (upd (upd (upd (upd (upd (upd (upd (upd (upd (upd (upd (upd (fun _ => .top) 1 (.ptr 1 0)) 4 (.c (.bool q.2))) 24 (.c (.sl (p.classes.map au)))) 25 (.c (.int .i64 p.classes.length))) 26 (.c (.int .i64 k))) 6 (.ptr 6 0)) 46 (.c (.sl (cms.map aI)))) 47 (.c (.int .i64 cms.length))) 48 (.c (.int .i64 i))) 10 (.ptr 10 0)) 53 (.c (.sl (mps.map aJ)))) 54 (.c (.int .i64 mps.length))) 55 (.c (.int .i64 q.1)),
        upd (upd (upd Mem.nil 1 (some (.box 25 [.c (.sl (p.classes.map au)), .c (.sl (aO p.main))]))) 6 (some (.box 42 [.c (.str cn), .c (.str csu), .c (.sl (cfs.map aJ)), .c (.sl (cms.map aI))]))) 10 (some (.box 44 [.c (.str mty), .c (.str mnm), .c (.sl (mps.map aJ)), .c (.sl (aO mbd))]))⟩)
        (fun q => q.1 ≤ mps.length ∧ q.2 = (b1 && (mps.take q.1).all (fun s => bJ p.classes s.type))) (fun q => mps.length - q.1) (0, b1) ?start ⟨Nat.zero_le _, by simp⟩ ?round
       case start =>
        exact Ae
       case round =>
        rintro ⟨j, b2⟩ ⟨hj, hb2⟩;dsimp only at hj hb2 ⊢;refine W.go ?_;refine W.cond rfl ?_ ?_
        ·intro hlj;replace hlj := dtl hlj;obtain ⟨s, hs⟩ : ∃ s, mps[j]? = some s := ⟨_, List.getElem?_eq_getElem hlj⟩;have hall2 : (b1 && (mps.take (j + 1)).all (fun s => bJ p.classes s.type)) = (b2 && bJ p.classes s.type) := by
          rw [hb2, List.take_add_one, hs, List.all_append, Bool.and_assoc]; simp
         have hsat := bA (f := aJ) hs;simp only [aJ] at hsat;have hkn := lg p.classes (.sl (aO p.main)) s.type (by omega);generalize bJ p.classes s.type = KN at hkn hall2;cases b2 with
         | false =>
           exact aap
         | true =>
           exact aa6
        ·intro hge;replace hge := dnl hge;obtain rfl : j = mps.length := by omega
         rw [List.take_length] at hb2;rw [← Bool.and_assoc, ← hb2] at hall3;generalize kK p.classes cn false mty mps mbd = VM at hme hall3;refine Zq ?_;refine zm1 ?_;cases b2 with
         | false =>
           exact Yw
         | true =>
           generalize bJ p.classes mty = KT at hkt hall3;cases KT with
           | false =>
             refine Nf ?_;exact Yw
           | true =>
             refine Nf ?_;refine aj 6 gB ?_;refine av rfl rfl rfl rfl rfl (by simp) cw4 (hme _) ?_;refine mU ?_;refine ⟨(i + 1, VM), ⟨hli, by rw [hall3]; rfl⟩, by dsimp only; omega, ?_⟩;exact Vf
      ·intro hge;replace hge := dnl hge;obtain rfl : i = cms.length := by omega
       rw [List.take_length] at hb1;refine W.go ?_;refine Je ?_;have hfin : b1 = (V1 && iI p.classes ⟨cn, csu, cfs, cms⟩) := by rw [hb1, hb, hcd, Bool.and_assoc]
       rw [hall2c, ← hfin];exact O9
  ·intro hge;replace hge := dnl hge;obtain rfl : k = p.classes.length := by omega
   rw [List.take_length];generalize (V0 && p.classes.all (iI p.classes)) = V;cases V with
   | true =>
     refine W.go ?_;refine W.cf rfl ?_;exact Og
   | false =>
     refine W.go ?_;refine jA ?_;exact Og
def sD (v : Value) : Nat → A := upd (upd (fun _ => .top) DID (.defs [{ target := .fn (.func 17) #[], args := #[v] }])) (DID + 1) (.pinP v 2 0)
set_option maxHeartbeats 8000000 in
theorem KL (p : Program) (hS : fu p.classes) (hB : q8 p.classes) (hP : SmallP p) (hlen : p.classes.length ≤ 1048576) (m : Mem) : COk Tryz.prog 9 [.agg (bI p)] m (.c (.int .i64 (ru p))) := by
 have hcp : bI p = [.sl (p.classes.map au), .sl (aO p.main)] := rfl
 have hchk := WV p hS hlen
 have hR : ru p = if eO (oh p) p.classes = 0 then (if kR p = true then 0 else 70) else eO (oh p) p.classes := rfl
 rw [hR]
 clear hR
 obtain ⟨E, hE⟩ : ∃ E, eO (oh p) p.classes = E := ⟨_, rfl⟩
 rw [hE] at hchk ⊢
 refine Pv ah Tryz.func9 (by kernel_rfl) rfl rfl (by rfl) (by rfl) (by rfl) (fun R hkeep => ?_) m
 repeat (first | refine W.q ?_ | refine W.g ?_ gB)
 refine W.bl ?_
 refine W.bR ah 0 (by decide) ?_
 refine aj 1 gB ?_
 refine av rfl rfl rfl rfl rfl (by simp) cw1 (hchk _) ?_
 refine xe0 ?_
 refine W.go ?_
 refine W.cond rfl ?_ ?_
 ·intro h;have he : E ≠ 0 := by simpa using h
  rw [if_neg he];refine W.go ?_;refine W.ret (.inl ⟨.inr rfl, by rfl, ?_⟩);simp only [Tryz.f9, aU, ay, toT, fin, exb, simprocAttr]
 intro h
 obtain rfl : E = 0 := by simpa using h
 rw [if_pos rfl]
 have h16 : p.classes.length ≤ 16 := by
  exact U6
 have hg := Ef hE
 obtain ⟨-, mk⟩ := Ed hE
 have hmm := yB p tNo tNo hS hB h16 hchk [] p.main (by simp) hP.main.1 hP.main.2.1 mk Uv
 rw [← bf] at hmm
 simp only [List.map_nil] at hmm
 have hpd : kR p = (gQ p.classes tNo tNo [] p.main && p.classes.all (lW p.classes)) := rfl
 refine W.bl ?_
 refine W.OE (j := 2) rfl rfl rfl rfl rfl (by rfl) (fun v => ?_)
 -- what is handed back when it gives up
 have hbad : kR p = false → ∀ (s : Nat → A) (mm : Mem), s 2 = .ptr 2 0 → aU tab ⟨s, upd mm 2 (some (.box 27 [.c (.int .i64 70)]))⟩ [.cell 2 27] = some (.c (.int .i64 (if kR p = true then 0 else 70))) := by
  intro h s mm hs;rw [h];simp only [aU, ay, hs, upd_same];rfl
 cases hm0 : gQ p.classes tNo tNo [] p.main with
 | false =>
   have hpr : kR p = false := by rw [hpd, hm0]; rfl
   rw [hm0] at hmm;refine W.bl ?_;refine W.tK (base := 0) (ch := fU) ah 3 (by decide) rfl ?_;refine aA J4 ?_;exact ⟨_, (jM rfl rfl rfl rfl (by simp) (bg dG (bg dG (bg dG (bg Jh cw1)))) (hmm _)), .inr ⟨v, 2, by rfl, by rfl, .inr ⟨rfl, _, 0, by rfl, hbad hpr _ _ Xo⟩⟩⟩
 | true =>
 rw [hm0] at hmm hpd
 rw [Bool.true_and] at hpd
 refine W.bl ?_
 refine W.bR ah 0 (by decide) ?_
 refine aj 3 J4 ?_
 refine av rfl rfl rfl rfl rfl (by simp) (bg dG (bg dG (bg dG (bg Jh cw1)))) (hmm _) ?_
 refine aA J4 ?_
 repeat (first | refine W.q ?_ | refine W.g ?_ J4)
 refine W.loop (ι := Nat) (fun k => ⟨upd (upd (upd (upd (upd (sD v) 1 (.ptr 1 0)) 2 (.ptr 2 0)) 21 (.c (.sl (p.classes.map au)))) 22 (.c (.int .i64 p.classes.length))) 23 (.c (.int .i64 k)),
  upd (upd Mem.nil 1 (some (.box 25 [.c (.sl (p.classes.map au)), .c (.sl (aO p.main))]))) 2 (some (.box 27 [.c (.int .i64 0)]))⟩)
  (fun k => k ≤ p.classes.length ∧ (p.classes.take k).all (lW p.classes) = true) (fun k => p.classes.length - k) 0 ?start ⟨Nat.zero_le _, rfl⟩ ?round
 case start =>
  exact YB
 case round =>
  rintro k ⟨hk, hall⟩;refine aaS ?_;refine W.cond rfl ?_ ?_
  ·intro hlt;replace hlt := dtl hlt;obtain ⟨c, hx⟩ : ∃ c, p.classes[k]? = some c := ⟨_, List.getElem?_eq_getElem hlt⟩;have hcm := List.mem_of_getElem? hx;have hat := bA (f := au) hx;have hall1 : (p.classes.take (k + 1)).all (lW p.classes) = lW p.classes c := by
    exact Vs
   have hcno : lW p.classes c = false → kR p = false := fun h => by
    rw [hpd, List.all_eq_false];exact ⟨c, hcm, by rw [h]; decide⟩
   have hcd : lW p.classes c = (c.fields.all (fun s => bJ p.classes s.type) && c.methods.all fun m => bJ p.classes m.type && gQ p.classes c.name m.type m.params m.body) := rfl;have hbd := fun x hx => (xP hE hcm (m := x) hx).2
   have hnd := hg.s0.params c hcm;have hbs := hP.meth c hcm;have hcs := hS c hcm;rw [hcd] at hcno hall1;clear hcd;obtain ⟨cn, csu, cfs, cms⟩ := c;simp only [au] at hat;dsimp only at hcno hall1 hbd hbs hcs hnd
   repeat (first | refine W.q ?_ | refine W.g ?_ (by simp only [exb, simprocAttr, hat, sD, DID]; rfl))
   refine W.loop (ι := Nat) (fun j => ⟨upd (upd (upd (upd (upd (upd (upd (upd (upd (upd (sD v) 1 (.ptr 1 0)) 2 (.ptr 2 0)) 21 (.c (.sl (p.classes.map au)))) 22 (.c (.int .i64 p.classes.length))) 23 (.c (.int .i64 k))) 5 (.ptr 5 0)) 6 (.ptr 29 0)) 31 (.c (.sl (cfs.map aJ)))) 32 (.c (.int .i64 cfs.length))) 33 (.c (.int .i64 j)),
    upd (upd (upd (upd Mem.nil 1 (some (.box 25 [.c (.sl (p.classes.map au)), .c (.sl (aO p.main))]))) 2 (some (.box 27 [.c (.int .i64 0)]))) 5 (some (.box 42 [.c (.str cn), .c (.str csu), .c (.sl (cfs.map aJ)), .c (.sl (cms.map aI))]))) 29 (some (.box 64 [.c (.sl (p.classes.map au)), .c (.sl (aO p.main)), .c (.str tNo), .c (.str tNo), .c (.sl [])]))⟩)
    (fun j => j ≤ cfs.length ∧ (cfs.take j).all (fun s => bJ p.classes s.type) = true) (fun j => cfs.length - j) 0 ?start ⟨Nat.zero_le _, rfl⟩ ?round
   case start =>
    exact YB
   case round =>
    rintro j ⟨hj, hfa⟩;refine aaS ?_;refine W.cond rfl ?_ ?_
    ·intro hlj;replace hlj := dtl hlj;obtain ⟨s, hs⟩ : ∃ s, cfs[j]? = some s := ⟨_, List.getElem?_eq_getElem hlj⟩;have hfa1 : (cfs.take (j + 1)).all (fun s => bJ p.classes s.type) = bJ p.classes s.type := by
      rw [List.take_add_one, hs, List.all_append, hfa]; simp
     have hsat := bA (f := aJ) hs;simp only [aJ] at hsat;have hkn := qZ p.classes [.sl (aO p.main), .str tNo, .str tNo, .sl []] s.type (by omega);cases hks : bJ p.classes s.type with
     | false =>
       have hpr : kR p = false := hcno (by
        have : cfs.all (fun s => bJ p.classes s.type) = false := by
         rw [List.all_eq_false];exact ⟨s, List.mem_of_getElem? hs, by rw [hks]; decide⟩
        rw [this]; rfl)
       rw [hks] at hkn
       repeat (first | refine W.q ?_ | refine W.g ?_ Vy)
       refine W.bl ?_;refine Rn ?_;refine aj 3 tY ?_;refine Jl ?_;exact aaE
     | true =>
       rw [hks] at hkn hfa1
       repeat (first | refine W.q ?_ | refine W.g ?_ Vy)
       refine W.bl ?_;refine zm1 ?_;refine aj 3 tY ?_;refine Jl ?_;refine ZP ?_;refine aaS ?_;refine ⟨j + 1, ⟨hlj, hfa1⟩, by omega, ?_⟩;refine dU ?sle ?mle ?swf ?mwf ?kept QH
       case kept => exact aQ hkeep
       case swf => repeat (first | exact bP _ | refine bQ ?_ Bd)
       case mwf => repeat (first | exact d9 _ | refine dS ?_ F8)
       case mle => repeat (first | exact aV _ | exact aF _ | refine aT ?_ (by first | rfl | (simp only [ak, aB, Nat.reduceEqDiff, reduceIte, aP (show j + 1 < 9223372036854775808 by omega)]; done)))
       case sle => repeat (first | exact aM _ | refine aL ?_ (by first | (simp only [ak, sD, DID, aD, aC, simprocAttr, aP (show j + 1 < 9223372036854775808 by omega)]; done) | (simp only [ak, sD, DID, aD, aC, simprocAttr, aP (show j + 1 < 9223372036854775808 by omega)]; rfl)))
    ·intro hge;replace hge := dnl hge;obtain rfl : j = cfs.length := by omega
     rw [List.take_length] at hfa;rw [hfa, Bool.true_and] at hcno hall1;refine aaS ?_;refine W.loop (ι := Nat) (fun i => ⟨upd (upd (upd (upd (upd (upd (upd (upd (upd (upd (sD v) 1 (.ptr 1 0)) 2 (.ptr 2 0)) 21 (.c (.sl (p.classes.map au)))) 22 (.c (.int .i64 p.classes.length))) 23 (.c (.int .i64 k))) 5 (.ptr 5 0)) 6 (.ptr 29 0)) 44 (.c (.sl (cms.map aI)))) 45 (.c (.int .i64 cms.length))) 46 (.c (.int .i64 i)),
      upd (upd (upd (upd Mem.nil 1 (some (.box 25 [.c (.sl (p.classes.map au)), .c (.sl (aO p.main))]))) 2 (some (.box 27 [.c (.int .i64 0)]))) 5 (some (.box 42 [.c (.str cn), .c (.str csu), .c (.sl (cfs.map aJ)), .c (.sl (cms.map aI))]))) 29 (some (.box 64 [.c (.sl (p.classes.map au)), .c (.sl (aO p.main)), .c (.str tNo), .c (.str tNo), .c (.sl [])]))⟩)
      (fun i => i ≤ cms.length ∧ (cms.take i).all (fun m => bJ p.classes m.type && gQ p.classes cn m.type m.params m.body) = true) (fun i => cms.length - i) 0 ?start ⟨Nat.zero_le _, rfl⟩ ?round
     case start =>
      exact YB
     case round =>
      rintro i ⟨hi, hma⟩;refine aaS ?_;refine W.cond rfl ?_ ?_
      ·intro hli;replace hli := dtl hli;obtain ⟨mm, hmi⟩ : ∃ mm, cms[i]? = some mm := ⟨_, List.getElem?_eq_getElem hli⟩;have hmm2 := List.mem_of_getElem? hmi;have hma1 : (cms.take (i + 1)).all (fun m => bJ p.classes m.type && gQ p.classes cn m.type m.params m.body) = (bJ p.classes mm.type && gQ p.classes cn mm.type mm.params mm.body) := by
        exact NC
       have hmno : (bJ p.classes mm.type && gQ p.classes cn mm.type mm.params mm.body) = false → kR p = false := fun h => hcno (by
        rw [List.all_eq_false];exact ⟨mm, hmm2, by rw [h]; decide⟩)
       have by2 := hbd mm hmm2;obtain ⟨bs1, bs2, bs3⟩ := hbs mm hmm2;have hps := hcs.2.2 mm hmm2;have hme := yB p cn mm.type hS hB h16 hchk mm.params mm.body (hnd mm hmm2) bs1 bs2 by2 (by omega);have hkt := qZ p.classes [.sl (aO p.main), .str tNo, .str tNo, .sl []] mm.type (by omega);have hmat := bA (f := aI) hmi;rw [← bf] at hme;obtain ⟨mty, mnm, mps, mbd⟩ := mm;simp only [aI] at hmat;dsimp only at hma1 hmno hme hkt;cases hkm : bJ p.classes mty with
       | false =>
         have hpr : kR p = false := hmno (by rw [hkm]; rfl);rw [hkm] at hkt
         repeat (first | refine W.q ?_ | refine W.g ?_ UO)
         refine W.bl ?_;refine Rn ?_;refine YK ?_;exact aaE
       | true =>
         rw [hkm] at hkt hma1 hmno
         repeat (first | refine W.q ?_ | refine W.g ?_ UO)
         refine W.bl ?_;refine zm1 ?_;refine YK ?_;refine ZP ?_;refine W.bl ?_;cases hmt : gQ p.classes cn mty mps mbd with
         | false =>
           have hpr : kR p = false := hmno (by rw [hmt]; rfl);rw [hmt] at hme;refine W.tK (base := 0) (ch := fU) ah 9 (by decide) rfl ?_;refine aA tY ?_;exact ⟨_, (jM rfl rfl rfl rfl (by simp) cw5 (hme _)), .inr ⟨v, 2, by rfl, by rfl, .inr ⟨rfl, _, 0, by rfl, hbad hpr _ _ Xo⟩⟩⟩
         | true =>
           rw [hmt] at hme hma1;refine zm1 ?_;refine aj 9 tY ?_;refine av rfl rfl rfl rfl rfl (by simp) cw5 (hme _) ?_;refine aA tY ?_;refine aaS ?_;refine ⟨i + 1, ⟨hli, hma1⟩, by omega, ?_⟩;refine dU ?sle ?mle ?swf ?mwf ?kept QH
           case kept => exact aQ hkeep
           case swf => repeat (first | exact bP _ | refine bQ ?_ Bd)
           case mwf => repeat (first | exact d9 _ | refine dS ?_ F8)
           case mle => repeat (first | exact aV _ | exact aF _ | refine aT ?_ (by first | rfl | (simp only [ak, aB, Nat.reduceEqDiff, reduceIte, aP (show i + 1 < 9223372036854775808 by omega)]; done)))
           case sle => repeat (first | exact aM _ | refine aL ?_ (by first | (simp only [ak, sD, DID, aD, aC, simprocAttr, aP (show i + 1 < 9223372036854775808 by omega)]; done) | (simp only [ak, sD, DID, aD, aC, simprocAttr, aP (show i + 1 < 9223372036854775808 by omega)]; rfl)))
      ·intro hge;replace hge := dnl hge;obtain rfl : i = cms.length := by omega
       rw [List.take_length] at hma;refine aaS ?_;refine ⟨k + 1, ⟨hlt, hall1.trans hma⟩, by omega, ?_⟩;refine dU ?sle ?mle ?swf ?mwf ?kept QH
       case kept => exact aQ hkeep
       case swf => repeat (first | exact bP _ | refine bQ ?_ Bd)
       case mwf => repeat (first | exact d9 _ | refine dS ?_ F8)
       case mle => repeat (first | exact aV _ | exact aF _ | refine aT ?_ (by first | rfl | (simp only [ak, aB, Nat.reduceEqDiff, reduceIte, aP (show k + 1 < 9223372036854775808 by omega)]; done)))
       case sle => repeat (first | exact aM _ | refine aL ?_ (by first | (simp only [ak, sD, DID, aD, aC, simprocAttr, aP (show k + 1 < 9223372036854775808 by omega)]; done) | (simp only [ak, sD, DID, aD, aC, simprocAttr, aP (show k + 1 < 9223372036854775808 by omega)]; rfl)))
  ·intro hge;replace hge := dnl hge;obtain rfl : k = p.classes.length := by omega
   rw [List.take_length] at hall;rw [hall] at hpd;rw [hpd, if_pos rfl];refine aaS ?_;refine W.ret (.inr ⟨v, 2, by rfl, by rfl, .inl ⟨.inr rfl, ?_⟩⟩);simp only [Tryz.f9, aU, ay, toT, fin, sD, DID, exb, simprocAttr]
end V
end Go.Proofs.YtgaipdillmleeaaGreat
end
section
namespace Go.Proofs.YtgaipdillmleeaaGreat
namespace V
open Go.RowKit AS
mutual
theorem XA : ∀ x : Expr, qV 1048576 x → SmE x
 | ⟨k, n, nm, kids⟩, h => by
   simp only [qV] at h;simp only [SmE];exact ⟨h.1, Er kids h.2⟩
theorem Er : ∀ l : List Expr, iY 1048576 l → uI l
 | [], _ => by simp only [uI]
 | x :: l, h => by
   simp only [iY] at h;simp only [uI];exact ⟨XA x h.1, Er l h.2⟩
end
mutual
theorem XO : ∀ x : Stmt, nW 1048576 x → SmS x
 | ⟨k, n, t, nm, es, th, el⟩, h => by
   simp only [nW] at h;simp only [SmS];exact ⟨h.1, Er es h.2.1, h.2.2.1, oZ th h.2.2.2.1, h.2.2.2.2.1, oZ el h.2.2.2.2.2⟩
theorem oZ : ∀ l : List Stmt, eX 1048576 l → vV l
 | [], _ => by simp only [vV]
 | x :: l, h => by
   simp only [eX] at h;simp only [vV];exact ⟨XO x h.1, oZ l h.2⟩
end
def zH (l : List Slot) : List Nm := l.map fun s => bs s.name
theorem J6 (l : List Slot) : cBs (zH l) = l.map fun s => [C.str s.name] := by
 unfold cBs zH;rw [List.map_map];refine List.map_congr_left fun s _ => ?_;simp [cB, bs]
def okM (m : Method) : Bool := decide ((tF (zH m.params) m.body).2.2 = 0) && (tF (zH m.params) m.body).2.1
def okC (c : Class) : Bool := c.methods.all okM
def M5 (p : Program) : Int := if ru p = 0 then (if (tF [] p.main).2.2 = 0 then (if p.classes.all okC = true then 0 else 80) else (tF [] p.main).2.2) else ru p
def rowP (l : List Slot) (k : Nat) : List (List C) := (l.take k).map (fun s => [C.str s.name]) ++ List.replicate (l.length - k) [C.str tNo]
theorem DK (l : List Slot) : List.replicate l.length [C.str tNo] = rowP l 0 := by simp [rowP]
theorem Lj (l : List Slot) : rowP l l.length = cBs (zH l) := by simp [rowP, J6]
theorem Pd {l : List Slot} {k : Nat} (h : k ≤ l.length) : (rowP l k).length = l.length := by
 unfold rowP;rw [List.length_append, List.length_map, List.length_take, List.length_replicate]; omega
theorem Sw {l : List Slot} {k : Nat} (h : k < l.length) : (rowP l k)[k]? = some [C.str tNo] := by
 unfold rowP;obtain ⟨d, hd⟩ : ∃ d, l.length - k = d + 1 := ⟨l.length - k - 1, by omega⟩;have hk : (l.take k).length = k := by rw [List.length_take]; omega
 rw [hd, List.getElem?_append_right (by simp; omega), List.length_map, hk, Nat.sub_self, List.replicate_succ]; rfl
theorem Af {l : List Slot} {k : Nat} {s : Slot} (hs : l[k]? = some s) : (rowP l k).set k [C.str s.name] = rowP l (k + 1) := by
 have h := (List.getElem?_eq_some_iff.1 hs).1;unfold rowP;obtain ⟨d, hd⟩ : ∃ d, l.length - k = d + 1 := ⟨l.length - k - 1, by omega⟩;have hd2 : l.length - (k + 1) = d := by omega
 have hk : (l.take k).length = k := by rw [List.length_take]; omega
 rw [hd, hd2, List.set_append_right _ _ (by simp; omega), List.length_map, hk, Nat.sub_self, List.replicate_succ, List.set_cons_zero, List.take_add_one, hs, List.map_append, List.append_assoc];rfl
set_option maxHeartbeats 8000000 in
theorem AJ (p : Program) (hS : fu p.classes) (hB : q8 p.classes) (hP : SmallP p) (hlen : p.classes.length ≤ 1048576) (m : Mem) : COk Tryz.prog 5 [.agg (bI p)] m (.c (.int .i64 (M5 p))) := by
 have hcp : bI p = [.sl (p.classes.map au), .sl (aO p.main)] := rfl;have h1 := KL p hS hB hP hlen;have h2 := zi [] p.main ⟨by have := hP.main.2.2; simp only [List.length_nil]; omega, hP.main.1, oZ _ hP.main.2.1⟩;unfold M5;generalize ru p = E at h1;obtain ⟨lM, rM, eM, hM⟩ : ∃ l r e, tF [] p.main = (l, r, e) := ⟨_, _, _, rfl⟩;rw [hM] at h2 ⊢;rw [← bf] at h2;have h0 : cBs [] = [] := rfl;simp only [y7, h0] at h2;refine (aS ah Tryz.func5 (by kernel_rfl) rfl rfl (by rfl) (by rfl) (by rfl) (fun R hkeep => ?_) m);refine KE ?_;refine W.bl ?_;refine zm1 ?_;refine aj 1 gB ?_;refine Z8 ?_;refine mU ?_;refine W.cond rfl ?_ ?_
 ·intro h;have he : E ≠ 0 := by simpa using h
  exact Uu
 intro h;obtain rfl : E = 0 := by simpa using h
 rw [if_pos rfl];refine W.bl ?_;refine zm1 ?_;refine xs0 2 ?_;refine Xd ?_;refine mU ?_;refine W.cond rfl ?_ ?_
 ·intro h;have he : eM ≠ 0 := by simpa using h
  exact Uu
 intro h;obtain rfl : eM = 0 := by simpa using h
 rw [if_pos rfl];refine W.go ?_;refine W.loop (ι := Nat) (fun k => ⟨upd (upd (upd (upd (fun _ => .top) 1 (.ptr 1 0)) 33 (.c (.sl (p.classes.map au)))) 34 (.c (.int .i64 p.classes.length))) 35 (.c (.int .i64 k)),
  upd Mem.nil 1 (some (.box 25 [.c (.sl (p.classes.map au)), .c (.sl (aO p.main))]))⟩)
  (fun k => k ≤ p.classes.length ∧ (p.classes.take k).all okC = true) (fun k => p.classes.length - k) 0 ?start ⟨Nat.zero_le _, rfl⟩ ?round
 case start =>
  exact Ae
 case round =>
  rintro k ⟨hk, hall⟩;refine W.go ?_;refine W.cond rfl ?_ ?_
  ·intro hlt;replace hlt := dtl hlt;obtain ⟨c, hx⟩ : ∃ c, p.classes[k]? = some c := ⟨_, List.getElem?_eq_getElem hlt⟩;have hcm := List.mem_of_getElem? hx;have hat := bA (f := au) hx;have hall1 : (p.classes.take (k + 1)).all okC = okC c := by
    exact Vs
   have hcno : okC c = false → p.classes.all okC = false := fun h => by
    exact Ko
   have hbs := hP.meth c hcm;have hcs := hS c hcm;obtain ⟨cn, csu, cfs, cms⟩ := c;simp only [au] at hat;unfold okC at hcno hall1;dsimp only at hcno hall1 hbs hcs;refine Mg ?_;refine W.loop (ι := Nat) (fun i => ⟨upd (upd (upd (upd (upd (upd (upd (fun _ => .top) 1 (.ptr 1 0)) 33 (.c (.sl (p.classes.map au)))) 34 (.c (.int .i64 p.classes.length))) 35 (.c (.int .i64 k))) 40 (.c (.sl (cms.map aI)))) 41 (.c (.int .i64 cms.length))) 42 (.c (.int .i64 i)),
    upd Mem.nil 1 (some (.box 25 [.c (.sl (p.classes.map au)), .c (.sl (aO p.main))]))⟩)
    (fun i => i ≤ cms.length ∧ (cms.take i).all okM = true) (fun i => cms.length - i) 0 ?start ⟨Nat.zero_le _, rfl⟩ ?round
   case start =>
    exact Ae
   case round =>
    rintro i ⟨hi, hma⟩;refine W.go ?_;refine W.cond rfl ?_ ?_
    ·intro hli;replace hli := dtl hli;obtain ⟨mm, hmi⟩ : ∃ mm, cms[i]? = some mm := ⟨_, List.getElem?_eq_getElem hli⟩;have hmm := List.mem_of_getElem? hmi;have hma1 : (cms.take (i + 1)).all okM = okM mm := by
      exact NC
     have hmno : okM mm = false → p.classes.all okC = false := fun h => hcno (by
      rw [List.all_eq_false];exact ⟨mm, hmm, by rw [h]; decide⟩)
     obtain ⟨bs1, bs2, bs3⟩ := hbs mm hmm;have hps := hcs.2.2 mm hmm;have hsu := zi (zH mm.params) mm.body ⟨by unfold zH; rw [List.length_map]; omega, bs1, oZ _ bs2⟩;have hmat := bA (f := aI) hmi;obtain ⟨lm, rm, em, hm⟩ : ∃ l r e, tF (zH mm.params) mm.body = (l, r, e) := ⟨_, _, _, rfl⟩;have hok : okM mm = (decide (em = 0) && rm) := by unfold okM; rw [hm]
     rw [hok] at hma1 hmno;rw [hm, ← bf] at hsu;simp only [y7] at hsu;clear hok hm;obtain ⟨mty, mnm, mps, mbd⟩ := mm;simp only [aI] at hmat;dsimp only at hps hsu;have hpl : (mps.length : Int) ≤ 9223372036854775807 := by omega
     have hpb : mps.length * 16 ≤ 140737488355328 := by omega
     repeat (first | refine W.q ?_ | refine W.g ?_ (by simp only [exb, simprocAttr, hmat, List.length_map, hpl, hpb, Int.toNat_natCast, Int.natCast_nonneg, and_self]; rfl))
     refine W.loop (ι := Nat) (fun j => ⟨upd (upd (upd (upd (upd (upd (upd (upd (upd (upd (upd (upd (fun _ => .top) 1 (.ptr 1 0)) 33 (.c (.sl (p.classes.map au)))) 34 (.c (.int .i64 p.classes.length))) 35 (.c (.int .i64 k))) 40 (.c (.sl (cms.map aI)))) 41 (.c (.int .i64 cms.length))) 42 (.c (.int .i64 i))) 10 (.ptr 10 0)) 11 (.own 49)) 51 (.c (.sl (mps.map aJ)))) 52 (.c (.int .i64 mps.length))) 53 (.c (.int .i64 j)),
      upd (upd (upd Mem.nil 1 (some (.box 25 [.c (.sl (p.classes.map au)), .c (.sl (aO p.main))]))) 10 (some (.box 44 [.c (.str mty), .c (.str mnm), .c (.sl (mps.map aJ)), .c (.sl (aO mbd))]))) 49 (some (.mrow 9 1 (rowP mps j)))⟩)
      (fun j => j ≤ mps.length) (fun j => mps.length - j) 0 ?start (Nat.zero_le _) ?round
     case start =>
      refine iM ?sle ?mle (aQ hkeep)
      case mle => repeat (first | exact aV _ | exact aF _ | refine aT ?_ (by first | rfl | (simp only [ak, aB, Nat.reduceEqDiff, reduceIte, DK]; done)))
      case sle => repeat (first | exact aM _ | exact aH _ | refine aL ?_ (by first | rfl | (simp only [ak, aD, aC, Nat.reduceEqDiff, reduceIte, DK]; done)))
     case round =>
      intro j hj;refine W.go ?_;refine W.cond rfl ?_ ?_
      ·intro hlj;replace hlj := dtl hlj;obtain ⟨s, hs⟩ : ∃ s, mps[j]? = some s := ⟨_, List.getElem?_eq_getElem hlj⟩;have hsat := bA (f := aJ) hs;simp only [aJ] at hsat;have hrl := Pd (l := mps) (k := j) (by omega);have hlt' : j < (rowP mps j).length := by omega
       repeat (first | refine W.q ?_ | refine W.g ?_ (by simp only [exb, simprocAttr, hsat, hlt', Sw hlj, Af hs]; rfl))
       refine ⟨j + 1, hlj, by omega, ?_⟩;refine iM ?sle ?mle (aQ hkeep)
       case mle => repeat (first | exact aV _ | exact aF _ | refine aT ?_ (by first | rfl | (simp only [ak, aB, Nat.reduceEqDiff, reduceIte, Af hs, aP (show j + 1 < 9223372036854775808 by omega)]; done)))
       case sle => repeat (first | exact aM _ | exact aH _ | refine aL ?_ (by first | rfl | (simp only [ak, aD, aC, Nat.reduceEqDiff, reduceIte, Af hs, aP (show j + 1 < 9223372036854775808 by omega)]; done)))
      ·intro hge;replace hge := dnl hge;obtain rfl : j = mps.length := by omega
       rw [Lj];refine Zq ?_;refine W.freeze 11 49 rfl dz (cu hkeep) ?_;refine zm1 ?_;refine aj 3 (by simp only [exb, simprocAttr, bB, aB, A.kill, O.kill, Option.map_some, Option.map_none, List.map_cons, List.map_nil]; rfl) ?_;refine av rfl rfl rfl rfl rfl (by simp) cw2 (hsu _) ?_;refine xe0 ?_;refine W.bl ?_;cases he : (decide (em = 0)) with
       | false =>
         have he2 : ¬ em = 0 := by simpa using he
         have hne : (!(decide (em = 0))) = true := by rw [he]; rfl
         repeat (first | refine W.q ?_ | refine W.g ?_ Wd)
         refine W.cond rfl (fun _ => ?_) (fun h => by simp [he2] at h);rw [if_neg SL];exact T9
       | true =>
         obtain rfl : em = 0 := by simpa using he
         refine W.go ?_;cases rm with
         | false =>
           refine jA ?_;rw [if_neg (by rw [hmno rfl]; decide)];exact T9
         | true =>
           exact Tw
    ·exact Io
  ·intro hge;replace hge := dnl hge;obtain rfl : k = p.classes.length := by omega
   rw [List.take_length] at hall;rw [if_pos hall];exact T9
set_option maxHeartbeats 8000000 in
theorem wG (p : Program) (hS : fu p.classes) (hP : SmallP p) (hlen : p.classes.length ≤ 1048576) (m : Mem) : COk Tryz.prog 6 [.agg (bI p)] m (.c (.int .i64 (M5 p))) := by
 have hcp : bI p = [.sl (p.classes.map au), .sl (aO p.main)] := rfl;have h1 := DY p hS hP hlen;rw [← R3] at h1;have h2 := Bp [] p.main ⟨by have := hP.main.2.2; simp only [List.length_nil]; omega, hP.main.1, oZ _ hP.main.2.1⟩;unfold M5;generalize ru p = E at h1;obtain ⟨lM, rM, eM, hM⟩ : ∃ l r e, tF [] p.main = (l, r, e) := ⟨_, _, _, rfl⟩;rw [hM] at h2 ⊢;rw [← bf] at h2;have h0 : cBs [] = [] := rfl;simp only [y7, h0] at h2;refine (aS ah Tryz.func6 (by kernel_rfl) rfl rfl (by rfl) (by rfl) (by rfl) (fun R hkeep => ?_) m);refine KE ?_;refine W.bl ?_;refine zm1 ?_;refine aj 1 gB ?_;refine Z8 ?_;refine mU ?_;refine W.cond rfl ?_ ?_
 ·intro h;have he : E ≠ 0 := by simpa using h
  exact U8
 intro h;obtain rfl : E = 0 := by simpa using h
 rw [if_pos rfl];refine W.bl ?_;refine zm1 ?_;refine xs0 2 ?_;refine Xd ?_;refine mU ?_;refine W.cond rfl ?_ ?_
 ·intro h;have he : eM ≠ 0 := by simpa using h
  exact U8
 intro h;obtain rfl : eM = 0 := by simpa using h
 rw [if_pos rfl];refine W.go ?_;refine W.loop (ι := Nat) (fun k => ⟨upd (upd (upd (upd (fun _ => .top) 1 (.ptr 1 0)) 33 (.c (.sl (p.classes.map au)))) 34 (.c (.int .i64 p.classes.length))) 35 (.c (.int .i64 k)),
  upd Mem.nil 1 (some (.box 25 [.c (.sl (p.classes.map au)), .c (.sl (aO p.main))]))⟩)
  (fun k => k ≤ p.classes.length ∧ (p.classes.take k).all okC = true) (fun k => p.classes.length - k) 0 ?start ⟨Nat.zero_le _, rfl⟩ ?round
 case start =>
  exact Ae
 case round =>
  rintro k ⟨hk, hall⟩;refine W.go ?_;refine W.cond rfl ?_ ?_
  ·intro hlt;replace hlt := dtl hlt;obtain ⟨c, hx⟩ : ∃ c, p.classes[k]? = some c := ⟨_, List.getElem?_eq_getElem hlt⟩;have hcm := List.mem_of_getElem? hx;have hat := bA (f := au) hx;have hall1 : (p.classes.take (k + 1)).all okC = okC c := by
    exact Vs
   have hcno : okC c = false → p.classes.all okC = false := fun h => by
    exact Ko
   have hbs := hP.meth c hcm;have hcs := hS c hcm;obtain ⟨cn, csu, cfs, cms⟩ := c;simp only [au] at hat;unfold okC at hcno hall1;dsimp only at hcno hall1 hbs hcs;refine Mg ?_;refine W.loop (ι := Nat) (fun i => ⟨upd (upd (upd (upd (upd (upd (upd (fun _ => .top) 1 (.ptr 1 0)) 33 (.c (.sl (p.classes.map au)))) 34 (.c (.int .i64 p.classes.length))) 35 (.c (.int .i64 k))) 40 (.c (.sl (cms.map aI)))) 41 (.c (.int .i64 cms.length))) 42 (.c (.int .i64 i)),
    upd Mem.nil 1 (some (.box 25 [.c (.sl (p.classes.map au)), .c (.sl (aO p.main))]))⟩)
    (fun i => i ≤ cms.length ∧ (cms.take i).all okM = true) (fun i => cms.length - i) 0 ?start ⟨Nat.zero_le _, rfl⟩ ?round
   case start =>
    exact Ae
   case round =>
    rintro i ⟨hi, hma⟩;refine W.go ?_;refine W.cond rfl ?_ ?_
    ·intro hli;replace hli := dtl hli;obtain ⟨mm, hmi⟩ : ∃ mm, cms[i]? = some mm := ⟨_, List.getElem?_eq_getElem hli⟩;have hmm := List.mem_of_getElem? hmi;have hma1 : (cms.take (i + 1)).all okM = okM mm := by
      exact NC
     have hmno : okM mm = false → p.classes.all okC = false := fun h => hcno (by
      rw [List.all_eq_false];exact ⟨mm, hmm, by rw [h]; decide⟩)
     obtain ⟨bs1, bs2, bs3⟩ := hbs mm hmm;have hps := hcs.2.2 mm hmm;have hsu := Bp (zH mm.params) mm.body ⟨by unfold zH; rw [List.length_map]; omega, bs1, oZ _ bs2⟩;have hmat := bA (f := aI) hmi;obtain ⟨lm, rm, em, hm⟩ : ∃ l r e, tF (zH mm.params) mm.body = (l, r, e) := ⟨_, _, _, rfl⟩;have hok : okM mm = (decide (em = 0) && rm) := by unfold okM; rw [hm]
     rw [hok] at hma1 hmno;rw [hm, ← bf] at hsu;simp only [y7] at hsu;clear hok hm;obtain ⟨mty, mnm, mps, mbd⟩ := mm;simp only [aI] at hmat;dsimp only at hps hsu
     repeat (first | refine W.q ?_ | refine W.g ?_ WJ)
     refine W.mZ 11 11 9 1 rfl rfl ?_;refine W.loop (ι := Nat) (fun j => ⟨upd (upd (upd (upd (upd (upd (upd (upd (upd (upd (upd (upd (fun _ => .top) 1 (.ptr 1 0)) 33 (.c (.sl (p.classes.map au)))) 34 (.c (.int .i64 p.classes.length))) 35 (.c (.int .i64 k))) 40 (.c (.sl (cms.map aI)))) 41 (.c (.int .i64 cms.length))) 42 (.c (.int .i64 i))) 10 (.ptr 10 0)) 11 (.own 11)) 47 (.c (.sl (mps.map aJ)))) 48 (.c (.int .i64 mps.length))) 49 (.c (.int .i64 j)),
      upd (upd (upd Mem.nil 1 (some (.box 25 [.c (.sl (p.classes.map au)), .c (.sl (aO p.main))]))) 10 (some (.box 44 [.c (.str mty), .c (.str mnm), .c (.sl (mps.map aJ)), .c (.sl (aO mbd))]))) 11 (some (.arr 9 1 ((mps.take j).map fun s => [C.str s.name])))⟩)
      (fun j => j ≤ mps.length) (fun j => mps.length - j) 0 ?start (Nat.zero_le _) ?round
     case start =>
      refine iM ?sle ?mle (aQ hkeep)
      case mle => repeat (first | exact aV _ | exact aF _ | refine aT ?_ (by first | rfl | (simp only [ak, aB, Nat.reduceEqDiff, reduceIte, List.take_zero, List.map_nil]; done)))
      case sle => repeat (first | exact aM _ | exact aH _ | refine aL ?_ (by first | rfl | (simp only [ak, aD, aC, Nat.reduceEqDiff, reduceIte, List.take_zero, List.map_nil]; done)))
     case round =>
      intro j hj;refine W.go ?_;refine W.cond rfl ?_ ?_
      ·intro hlj;replace hlj := dtl hlj;obtain ⟨s, hs⟩ : ∃ s, mps[j]? = some s := ⟨_, List.getElem?_eq_getElem hlj⟩;have hsat := bA (f := aJ) hs;simp only [aJ] at hsat;have hnx : (mps.take (j + 1)).map (fun s => [C.str s.name]) = (mps.take j).map (fun s => [C.str s.name]) ++ [[C.str s.name]] := by rw [List.take_add_one, hs]; simp
       have htl : (mps.take j).length = j := by rw [List.length_take]; omega
       repeat (first | refine W.q ?_ | refine W.g ?_ Pb)
       refine W.bl ?_;refine zm1 ?_;refine xs0 4 ?_;refine cK ah 11 rfl rfl rfl rfl rfl rfl rfl rfl nR rfl rfl rfl rfl (cu hkeep) (by simp) xq (by decide) ?_;refine mU ?_;refine ⟨j + 1, hlj, by omega, ?_⟩;rw [hnx];exact PD
      ·intro hge;replace hge := dnl hge;obtain rfl : j = mps.length := by omega
       rw [List.take_length, ← J6];refine Zq ?_;refine zm1 ?_;refine xs0 3 ?_;refine av rfl rfl rfl rfl rfl (by simp) (bg (o8 rfl) cw1) (hsu _) ?_;refine xe0 ?_;refine W.bl ?_;cases he : (decide (em = 0)) with
       | false =>
         have he2 : ¬ em = 0 := by simpa using he
         have hne : (!(decide (em = 0))) = true := by rw [he]; rfl
         repeat (first | refine W.q ?_ | refine W.g ?_ Wd)
         refine W.cond rfl (fun _ => ?_) (fun h => by simp [he2] at h);rw [if_neg SL];exact WO
       | true =>
         obtain rfl : em = 0 := by simpa using he
         refine W.go ?_;cases rm with
         | false =>
           refine jA ?_;rw [if_neg (by rw [hmno rfl]; decide)];exact WO
         | true =>
           exact Tw
    ·exact Io
  ·intro hge;replace hge := dnl hge;obtain rfl : k = p.classes.length := by omega
   rw [List.take_length] at hall;rw [if_pos hall];exact WO
set_option maxHeartbeats 1000000 in
theorem D7 (p : Program) (hS : fu p.classes) (hB : q8 p.classes) (hP : SmallP p) (hlen : p.classes.length ≤ 1048576) (m : Mem) : COk Tryz.prog 3 [.agg (bI p)] m (.c (.bool true)) := by
 have h1 := AJ p hS hB hP hlen;have h2 := wG p hS hP hlen;have hcp : bI p = [.sl (p.classes.map au), .sl (aO p.main)] := rfl;rw [hcp] at h1 h2 ⊢;generalize M5 p = E at h1 h2;refine (aS ah Tryz.func3 (by kernel_rfl) rfl rfl (by rfl) (by rfl) (by rfl) (fun R hkeep => ?_) m);refine W.go ?_;refine zm5 ?_;refine xs0 0 ?_;refine av rfl rfl rfl rfl rfl (by simp) jL (QD _) ?_;refine xs0 2 ?_;refine Z8 ?_;refine xs0 1 ?_;refine av rfl rfl rfl rfl rfl (by simp) cw1 (h2 _) ?_;refine xe0 ?_;refine W.rt ?_;simp only [Tryz.f3, aU, ay, toT, fin, exb, simprocAttr]
end V
end Go.Proofs.YtgaipdillmleeaaGreat
end
section
namespace Go.Proofs.YtgaipdillmleeaaGreat
namespace V
open Go.RowKit
section
variable {H : Type} {enc : TypeId × Value → H} {w : World} {held : Bool}
theorem uR {N : Nat} : ∀ {l : List Expr}, (∀ x ∈ l, qV N x) → iY N l
 | [], _ => by simp only [iY]
 | x :: l, h => by simp only [iY]; exact ⟨h x (by simp), uR fun y hy => h y (List.mem_cons_of_mem _ hy)⟩
theorem mq {N : Nat} : ∀ {l : List Stmt}, (∀ x ∈ l, nW N x) → eX N l
 | [], _ => by simp only [eX]
 | x :: l, h => by simp only [eX]; exact ⟨h x (by simp), mq fun y hy => h y (List.mem_cons_of_mem _ hy)⟩
theorem Ih {N : Nat} : ∀ (d n : Nat) (cs : List Value) (x : Expr) (z : DataW H × List MemPlace), iF d w (· < w.heap.size) cs x → DataW.trod enc Tryz.prog w 0 (fun _ => true) held n 35 cs = some z → Rows.uptoBulk z.1 ≤ N → qV N x
 | 0, _, _, _, _, h, _, _ => h.elim
 | d + 1, n, cs, ⟨k, nn, nm, kids⟩, z, ⟨kv, e1, _, _, _, h5⟩, h, hN => by
   subst e1;obtain ⟨n3, y3, k3, b3⟩ := dI zK (by simp) h (33, 3) (by simp);rw [aZ _ zu _ _ _ rfl] at k3;obtain ⟨l3, hall⟩ := eF Tryz.underlying33 Bw (by decide) (fun cs y hy => by cases d with | zero => exact hy.elim | succ d => obtain ⟨_, rfl, -⟩ := hy; rfl) k3 h5;simp only [qV];refine ⟨Nat.le_trans l3 (Nat.le_trans b3 hN), uR fun y hy => ?_⟩;exact NY
theorem EN {N d n : Nat} {v : Value} {l : List Expr} {z : DataW H × List MemPlace} (h : RSl 4 (iF d w (· < w.heap.size)) w (· < w.heap.size) v l) (k : DataW.trod enc Tryz.prog w 0 (fun _ => true) held n 33 [v] = some z) (hN : Rows.uptoBulk z.1 ≤ N) : l.length ≤ N ∧ iY N l := by
 obtain ⟨l3, hall⟩ := eF Tryz.underlying33 Bw (by decide) (fun cs y hy => by cases d with | zero => exact hy.elim | succ d => obtain ⟨_, rfl, -⟩ := hy; rfl) k h;refine ⟨by omega, uR fun y hy => ?_⟩;exact NY
theorem Al {N : Nat} : ∀ (d n : Nat) (cs : List Value) (x : Stmt) (z : DataW H × List MemPlace), gW d w (· < w.heap.size) cs x → DataW.trod enc Tryz.prog w 0 (fun _ => true) held n 37 cs = some z → Rows.uptoBulk z.1 ≤ N → nW N x
 | 0, _, _, _, _, h, _, _ => h.elim
 | d + 1, n, cs, ⟨k, nn, ty, nm, es, th, el⟩, z, ⟨ev, tv, fv, e1, _, _, _, _, h6, h7, h8⟩, h, hN => by
   subst e1;have hlen : ∀ cs y, gW d w (· < w.heap.size) cs y → cs.length = 7 := fun cs y hy => by cases d with | zero => exact hy.elim | succ d => obtain ⟨_, _, _, rfl, -⟩ := hy; rfl
   obtain ⟨n4, y4, k4, b4⟩ := dI nA (by simp) h (33, 4) (by simp);obtain ⟨n5, y5, k5, b5⟩ := dI nA (by simp) h (23, 5) (by simp);obtain ⟨n6, y6, k6, b6⟩ := dI nA (by simp) h (23, 6) (by simp);rw [aZ _ zu _ _ _ rfl] at k4;rw [aZ _ nJ _ _ _ rfl] at k5 k6;obtain ⟨q1, q2⟩ := EN h6 k4 (Nat.le_trans b4 hN);obtain ⟨l5, a5⟩ := eF Tryz.underlying23 ny (by decide) hlen k5 h7;obtain ⟨l6, a6⟩ := eF Tryz.underlying23 ny (by decide) hlen k6 h8;simp only [nW];refine ⟨q1, q2, Nat.le_trans l5 (Nat.le_trans b5 hN), mq fun y hy => ?_, Nat.le_trans l6 (Nat.le_trans b6 hN), mq fun y hy => ?_⟩
   ·exact UE
   ·exact WM
theorem KQ {d fuel : Nat} {cs : List Value} {x : DataW H × List MemPlace} {p : Program} (hp : iT d w (· < w.heap.size) (.agg cs.toArray) p) (h : DataW.trod enc Tryz.prog w 0 (fun _ => true) held fuel 25 cs = some x) (hN : Rows.uptoBulk x.1 ≤ 1048576) : q8 p.classes := by
 obtain ⟨cv, mv, e1, h1, -⟩ := hp;have e2 : cs = [cv, mv] := by simpa using congrArg Array.toList (Value.agg.inj e1)
 subst e2;obtain ⟨n1, y1, k1, b1⟩ := dI jI (by simp) h (22, 0) (by simp);rw [aZ _ sS _ _ _ rfl] at k1;obtain ⟨l1, hall⟩ := eF Tryz.underlying22 vF (by decide) (fun cs y hy => by obtain ⟨_, _, rfl, -⟩ := hy; rfl) k1 h1;intro c hc m hm;obtain ⟨n2, cs2, y2, hc2, k2, b2⟩ := hall c hc;obtain ⟨fv, mv2, rfl, -, -, hf, hmm⟩ := hc2;obtain ⟨n4, y4, k4, b4⟩ := dI kZ (by simp) k2 (40, 3) (by simp);rw [aZ _ sJ _ _ _ rfl] at k4;obtain ⟨l4, hall4⟩ := eF Tryz.underlying40 qC (by decide) (fun cs y hy => by obtain ⟨_, _, rfl, -⟩ := hy; rfl) k4 hmm;obtain ⟨n5, cs5, y5, hc5, k5, b5⟩ := hall4 m hm;obtain ⟨pv, bv, rfl, -, -, -, hbody⟩ := hc5;obtain ⟨n6, y6, k6, b6⟩ := dI lS (by simp) k5 (23, 3) (by simp);rw [aZ _ nJ _ _ _ rfl] at k6;obtain ⟨l6, a6⟩ := eF Tryz.underlying23 ny (by decide) (fun cs y hy => by cases d with | zero => exact hy.elim | succ d => obtain ⟨_, _, _, rfl, -⟩ := hy; rfl) k6 hbody;refine ⟨by omega, mq fun y hy => ?_⟩;exact WM
end
section
variable {H : Type} {enc : TypeId × Value → H} {w : World} {held : Bool}
theorem N8 {α β : Type} (f : α → Nat) (g : β → Nat) : ∀ (l : List α) (e : List β), l.length ≤ e.length → (∀ (i : Nat) x y, l[i]? = some x → e[i]? = some y → f x ≤ g y) → (l.map f).sum ≤ (e.map g).sum
 | [], _, _, _ => by simp
 | x :: l, [], h, _ => by simp at h
 | x :: l, y :: e, h, hp => by
   have h1 := hp 0 x y rfl rfl;have h2 := N8 f g l e (by simpa using h) (fun i a b ha hb => hp (i + 1) a b (by simpa using ha) Jo);simp only [List.map_cons, List.sum_cons];omega
theorem GJ : ∀ l : List (DataW H), Rows.uptoBulkAll l = (l.map Rows.uptoBulk).sum
 | [] => by simp [Rows.uptoBulkAll]
 | x :: l => by simp [Rows.uptoBulkAll, GJ l]
theorem w9 {α : Type} {P : Go.Program} {t e : TypeId} {sz fuel : Nat} {v : Value} {x : DataW H × List MemPlace} {R : List Value → α → Prop} {J : Nat → Prop} {l : List α} (cnt : α → Nat) (ht : P.underlying t = some (.slice e)) (hsz : P.cellsOf e = sz) (hpos : 0 < sz)
 (hlen : ∀ cs y, R cs y → cs.length = sz) (h : DataW.trod enc P w 0 (fun _ => true) held fuel t [v] = some x) (hR : RSl sz R w J v l) (hc : ∀ y ∈ l, ∀ n cs z, R cs y → DataW.trod enc P w 0 (fun _ => true) held n e cs = some z → cnt y ≤ Rows.uptoBulk z.1) :
 (l.map cnt).sum + 1 ≤ Rows.uptoBulk x.1 := by
 obtain ⟨a, n, cap, rfl, hn, -, -, hel⟩ := hR
 rcases DataW.trod_slice ht h with ⟨e1, rfl⟩ | ⟨a', len, cap', elems, rest, m, -, e1, hxe, -, -, -, hlen', hall, -, -⟩
 ·simp only [List.cons.injEq, Value.slice.injEq, and_true] at e1
  obtain ⟨-, rfl, -⟩ := e1
  obtain rfl : l = [] := List.length_eq_zero_iff.1 hn
  have := FK (H := H) DataW.nil
  simpa using this
 ·simp only [List.cons.injEq, Value.slice.injEq, and_true] at e1
  obtain ⟨rfl, rfl, rfl⟩ := e1
  subst hxe
  have hb : Rows.uptoBulkAll (elems.map (·.1)) + 1 ≤ Rows.uptoBulk (DataW.slice (elems.map (·.1)) (rest.map (·.1))) := by simp only [Rows.uptoBulk]; omega
  refine Nat.le_trans (Nat.succ_le_succ ?_) hb
  rw [GJ, List.map_map]
  refine N8 cnt _ l elems (by omega) fun i y z hi hz => ?_
  have hil := (List.getElem?_eq_some_iff.1 hi).1
  obtain ⟨b, off, cs, ea, -, hcc, hr⟩ := hel i y hi
  cases ea
  have h1 := hall i (by omega)
  rw [hsz, hz] at h1
  cases hcell : w.cells? 0 ((⟨b, off, none⟩ : Addr).add (i * sz)) sz with
  | none => rw [hcell] at h1; simp at h1
  | some cs' =>
    rw [hcell] at h1;have h1' : DataW.trod enc P w 0 (fun _ => true) held m e cs' = some z := by simpa using h1
    obtain ⟨_, hlen2, hcs⟩ := World.cells?_some hcell;have : cs = cs' := Bq hcc (fun j hj => by
     have := hcs j (by omega);rw [← this]
     congr 1
     have h3 : ∀ (o k : Nat), (⟨b, o, none⟩ : Addr).add k = ⟨b, o + k, none⟩ := fun o k => by
      exact Wo
     rw [h3, h3]) (by rw [hlen _ _ hr, hlen2])
    subst this;exact hc y (List.mem_of_getElem? hi) m cs z hr h1'
theorem WZ {a b : Nat} (hab : a < b) : ∀ {l : List (DataW H)} {x y : DataW H}, l[a]? = some x → l[b]? = some y → Rows.uptoBulk x + Rows.uptoBulk y ≤ Rows.uptoBulkAll l
 | l, x, y, ha, hb => by
   induction l generalizing a b with
   | nil => simp at ha
   | cons z l ih =>
     simp only [Rows.uptoBulkAll];cases a with
     | zero =>
       cases ha
       cases b with
       | zero => omega
       | succ b =>
         have := oH (List.mem_of_getElem? (by simpa using hb : l[b]? = some y));omega
     | succ a =>
       cases b with
       | zero => omega
       | succ b =>
         have := ih (a := a) (b := b) (by omega) (by simpa using ha) Jo;omega
theorem IG {P : Go.Program} {t : TypeId} {fl : List (TypeId × Nat)} {fuel : Nat} {cs : List Value} {x : DataW H × List MemPlace} {a b : Nat} (hab : a < b) {ka kb : TypeId × Nat}
 (hf : (P.underlying t).map (fun d => match d with | .struct fs => fs.toList.map (fun f => (f.type, f.offset)) | _ => []) = some fl) (ha : fl[a]? = some ka) (hb : fl[b]? = some kb)
 (h : DataW.trod enc P w 0 (fun _ => true) held fuel t cs = some x) : ∃ n y z, DataW.trod enc P w 0 (fun _ => true) held n ka.1 ((cs.drop ka.2).take (P.cellsOf ka.1)) = some y ∧ DataW.trod enc P w 0 (fun _ => true) held n kb.1 ((cs.drop kb.2).take (P.cellsOf kb.1)) = some z ∧ Rows.uptoBulk y.1 + Rows.uptoBulk z.1 + 1 ≤ Rows.uptoBulk x.1 := by
 cases hu : P.underlying t with
 | none => rw [hu] at hf; simp at hf
 | some d =>
   rw [hu] at hf;simp only [Option.map_some, Option.some.injEq] at hf;cases d with
   | struct fs =>
     simp only at hf;obtain ⟨xs, n, hfu, hxe, hl, hlen, hall⟩ := DataW.trod_struct hu h;have one : ∀ {i : Nat} {k : TypeId × Nat}, fl[i]? = some k → ∃ y, xs[i]? = some y ∧ DataW.trod enc P w 0 (fun _ => true) held n k.1 ((cs.drop k.2).take (P.cellsOf k.1)) = some y := fun {i k} hk => by
      rw [← hf, List.getElem?_map] at hk;cases hfi : fs.toList[i]? with
      | none => rw [hfi] at hk; cases hk
      | some f =>
        rw [hfi] at hk;cases hk
        have hi' : fs[i]? = some f := by rw [← Array.getElem?_toList]; exact hfi
        have := hall i f hi';have hlt : i < xs.length := by rw [hlen]; exact (Array.getElem?_eq_some_iff.1 hi').1
        exact ⟨xs[i], List.getElem?_eq_getElem hlt, by simpa [List.getElem?_eq_getElem hlt] using this⟩
     obtain ⟨y, hy, ty⟩ := one ha;obtain ⟨z, hz, tz⟩ := one hb;refine ⟨n, y, z, ty, tz, ?_⟩;have := WZ hab (l := xs.map (·.1)) (x := y.1) (y := z.1) (by rw [List.getElem?_map, hy]; rfl) (by rw [List.getElem?_map, hz]; rfl);exact V9
   | _ => simp only at hf; subst hf; simp at ha
theorem xW : ∀ l : List Stmt, dF l = (l.map lG).sum
 | [] => by simp [dF]
 | x :: l => by simp only [dF, List.map_cons, List.sum_cons, xW l]
theorem Ba : ∀ (d n : Nat) (cs : List Value) (x : Stmt) (z : DataW H × List MemPlace), gW d w (· < w.heap.size) cs x → DataW.trod enc Tryz.prog w 0 (fun _ => true) held n 37 cs = some z → lG x ≤ Rows.uptoBulk z.1
 | 0, _, _, _, _, h, _ => h.elim
 | d + 1, n, cs, ⟨k, nn, ty, nm, es, th, el⟩, z, ⟨ev, tv, fv, e1, _, _, _, _, h6, h7, h8⟩, h => by
   subst e1;have hlen : ∀ cs y, gW d w (· < w.heap.size) cs y → cs.length = 7 := fun cs y hy => by cases d with | zero => exact hy.elim | succ d => obtain ⟨_, _, _, rfl, -⟩ := hy; rfl
   obtain ⟨n5, y5, y6, k5, k6, b56⟩ := IG (a := 5) (b := 6) (by decide) nA rfl rfl h;rw [aZ _ nJ _ _ _ rfl] at k5 k6;have c5 : (th.map lG).sum + 1 ≤ Rows.uptoBulk y5.1 := w9 lG Tryz.underlying23 ny (by decide) hlen k5 h7 (fun y _ n cs z hr ht => Ba d n cs y z hr ht);have c6 : (el.map lG).sum + 1 ≤ Rows.uptoBulk y6.1 := w9 lG Tryz.underlying23 ny (by decide) hlen k6 h8 (fun y _ n cs z hr ht => Ba d n cs y z hr ht);simp only [lG, xW];omega
theorem Di {d n : Nat} {v : Value} {l : List Stmt} {z : DataW H × List MemPlace} (h : jD d w (· < w.heap.size) v l) (k : DataW.trod enc Tryz.prog w 0 (fun _ => true) held n 23 [v] = some z) (hN : Rows.uptoBulk z.1 ≤ 1048576) : l.length ≤ 1048576 ∧ eX 1048576 l ∧ dF l ≤ 1048576 := by
 have hlen : ∀ cs y, gW d w (· < w.heap.size) cs y → cs.length = 7 := fun cs y hy => by cases d with | zero => exact hy.elim | succ d => obtain ⟨_, _, _, rfl, -⟩ := hy; rfl
 obtain ⟨l5, a5⟩ := eF Tryz.underlying23 ny (by decide) hlen k h;have c5 := w9 lG Tryz.underlying23 ny (by decide) hlen k h (fun y _ n cs z hr ht => Ba d n cs y z hr ht);rw [← xW] at c5;refine ⟨by omega, mq fun y hy => ?_, by omega⟩;exact UE
theorem LY {d fuel : Nat} {cs : List Value} {x : DataW H × List MemPlace} {p : Program} (hp : iT d w (· < w.heap.size) (.agg cs.toArray) p) (h : DataW.trod enc Tryz.prog w 0 (fun _ => true) held fuel 25 cs = some x) (hN : Rows.uptoBulk x.1 ≤ 1048576) : SmallP p := by
 obtain ⟨cv, mv, e1, h1, hm⟩ := hp;have e2 : cs = [cv, mv] := by simpa using congrArg Array.toList (Value.agg.inj e1)
 subst e2;obtain ⟨n0, y0, k0, b0⟩ := dI jI (by simp) h (23, 1) (by simp);rw [aZ _ nJ _ _ _ rfl] at k0;obtain ⟨n1, y1, k1, b1⟩ := dI jI (by simp) h (22, 0) (by simp);rw [aZ _ sS _ _ _ rfl] at k1;obtain ⟨l1, hall⟩ := eF Tryz.underlying22 vF (by decide) (fun cs y hy => by obtain ⟨_, _, rfl, -⟩ := hy; rfl) k1 h1;refine ⟨Di hm k0 (by omega), fun c hc m hm => ?_⟩;obtain ⟨n2, cs2, y2, hc2, k2, b2⟩ := hall c hc;obtain ⟨fv, mv2, rfl, -, -, hf, hmm⟩ := hc2;obtain ⟨n4, y4, k4, b4⟩ := dI kZ (by simp) k2 (40, 3) (by simp);rw [aZ _ sJ _ _ _ rfl] at k4;obtain ⟨l4, hall4⟩ := eF Tryz.underlying40 qC (by decide) (fun cs y hy => by obtain ⟨_, _, rfl, -⟩ := hy; rfl) k4 hmm;obtain ⟨n5, cs5, y5, hc5, k5, b5⟩ := hall4 m hm;obtain ⟨pv, bv, rfl, -, -, -, hbody⟩ := hc5;obtain ⟨n6, y6, k6, b6⟩ := dI lS (by simp) k5 (23, 3) (by simp);rw [aZ _ nJ _ _ _ rfl] at k6;exact Di hbody k6 (by omega)
end
end V
end Go.Proofs.YtgaipdillmleeaaGreat
end
section
namespace Go.Proofs.YtgaipdillmleeaaGreat
open Go.ChangeShapes Go.WideShapes Go.ChangeAt Go.RowKit
open Go.ChangeMaps (open_string shut_string)
open V
theorem wY (os : Os) : laidMet Tryz.prog Rows.assignChecksUptoRow.laid ((World.holding Tryz.prog os ⟨#[], #[], []⟩).forCall (fun _ _ => 0) ⟨#[], #[.agg #[.slice none 0 0, .slice none 0 0]], []⟩).memory :=
 laidMet_of_run' 8 (by kernel_rfl) (by kernel_rfl)
theorem uY (os : Os) {H : Type} (enc : TypeId × Value → H) : ∃ places, DataW.whole enc Tryz.prog ((World.holding Tryz.prog os ⟨#[], #[], []⟩).forCall (fun _ _ => 0) ⟨#[], #[.agg #[.slice none 0 0, .slice none 0 0]], []⟩).memory Tryz.f3.params.toList Rows.assignChecksSpec.vars false (#[.agg #[.slice none 0 0, .slice none 0 0]] : Array Value).toList 8 = some ([.agg [.nil, .nil]], [], places) :=
 ⟨[], by kernel_rfl⟩
set_option maxRecDepth 100000 in
set_option maxHeartbeats 2000000 in
theorem tJ (os : Os) (started : os.Started) (H : Type) (enc : TypeId × Value → H) (F : Stop.Interp) :
 ReturnsInHanded {} Tryz.checked os 3 .any ((Rows.OpenSpec.upto Rows.assignChecksSpec).preRow enc Tryz.prog Tryz.f3 Rows.assignChecksUptoRow.domain false Rows.assignChecksUptoRow.laid) (((Rows.OpenSpec.upto Rows.assignChecksSpec).at F).post enc Tryz.prog Tryz.f3 false true false false) := by
 obtain ⟨places, hx⟩ := uY os enc
 refine returnsInHanded_of_row (C := Tryz.checked) (s := Rows.OpenSpec.upto Rows.assignChecksSpec) own started (by kernel_rfl) Tryz.func3
  (witness_row_at (enc := enc) (C := Tryz.checked) false (World.holding Tryz.prog os ⟨#[], #[], []⟩) #[.agg #[.slice none 0 0, .slice none 0 0]] rfl (by kernel_rfl) (by kernel_rfl) (by kernel_rfl)
    (OpenSpec.preRow_of_cond 8 hx (by kernel_rfl) (fun k hk => by cases hk; rfl) (by kernel_rfl) (wY os))) ?_
 intro W base args ds gs before hval0 hW _ hcond hsz0 _ hsh _
 have hbulk : Rows.uptoBulkAll (ds ++ gs) ≤ 1048576 := of_decide_eq_true (hcond _ rfl)
 clear hcond
 have hval : ∀ (j : Nat) t v, Tryz.f3.params[j]? = some t → args[j]? = some v → Value.okWide Tryz.prog W .any base t v := hval0
 have hW' := hW
 obtain ⟨p, q, hA0, hV, rfl, hfz, hnd⟩ := hW
 have hA : DataW.TrodAll enc Tryz.prog W 0 (fun _ => true) true Tryz.f3.params.toList args.toList ds p := hA0
 have hsz : ∀ n ∈ DataW.weightsEach Tryz.prog (Tryz.f3.params.toList ++ Rows.assignChecksSpec.plain.varTypes Tryz.prog) (ds ++ gs), n ≤ reachBytes := fun n hn => of_decide_eq_true (List.all_eq_true.1 hsz0 n hn)
 rw [Tryz.params3] at hA hval hsz
 clear hsz0
 obtain ⟨v0, vs0, d0, ds0, p0, q0, hargs, rfl, rfl, h0, r0⟩ := trodAll_cons hA
 obtain ⟨rfl, rfl, rfl⟩ := trodAll_nil r0
 obtain rfl : args = #[v0] := by cases args; simp_all
 obtain ⟨rfl, rfl⟩ := trodVars_none hV
 clear hA0 hval0
 simp only [List.append_nil] at hW'
 have k0 := h0
 have lt0 : ∀ x ∈ p0, x.block < W.heap.size := by obtain ⟨m, hm⟩ := k0; exact DataW.trod_lt m _ _ _ hm
 have fit0 : Fits Tryz.prog 25 d0 := fun n hn => hsz n (DataW.weights_mem_each (j := 0) rfl rfl n hn)
 have hG : rz W := cell_of_shapedOpen_int (zero := #[.int .i64 0]) (t := 3) hsh (of_decide_eq_true (by kernel_rfl)) (by kernel_rfl) rfl (by kernel_rfl) (by kernel_rfl) Tryz.underlying3
 obtain ⟨cs0, rfl, -⟩ := okWide_struct Tryz.underlying25 (hval 0 25 v0 rfl rfl)
 obtain ⟨e0, g0, w0⟩ := D5 fit0 h0 ⟨cs0, rfl⟩
 obtain ⟨n0, hn0⟩ := h0
 obtain ⟨hlen, hS⟩ := Pt (cs := cs0.toList) (N := 1048576) (x := (d0, p0)) (by simpa using w0) hn0 (Nat.le_trans (oH (by simp)) hbulk)
 have hBo := KQ (cs := cs0.toList) (x := (d0, p0)) (by simpa using w0) hn0 (Nat.le_trans (oH (by simp)) hbulk)
 have hPo := LY (cs := cs0.toList) (x := (d0, p0)) (by simpa using w0) hn0 (Nat.le_trans (oH (by simp)) hbulk)
 refine (OI (vals := [_]) (D7 g0 hS hBo hPo hlen _) hG (fun B => ⟨Rh w0, trivial⟩)).mono fun e W' ⟨he, bel⟩ => ?_
 subst he
 exact ⟨_, rfl, _, _, _, [], _, [], hW', trodAll_mk1 (shut_bool Tryz.underlying4 _), trodAll_cons_mk (Below.trod laidOut (by kernel_rfl) (of_decide_eq_true (by kernel_rfl)) k0 bel lt0) trodAll_mk0, rfl, bel.frame _, fun h => by cases h⟩
theorem assignChecks_holds : Rows.AssignChecksUptoSaid :=
 OpenClaim.holds_of_cond 3 Tryz.f3 rfl rfl rfl rfl rfl rfl rfl ⟨rfl, rfl, rfl, rfl, rfl⟩ rfl rfl rfl rfl rfl (by kernel_rfl) Tryz.func3 (by kernel_rfl)
  (of_decide_eq_true (by kernel_rfl)) (by unfold Func.isWrapper; first | (rw [if_pos aK]; kernel_rfl) | (rw [if_neg aK]; exact ⟨rfl, rfl⟩))
  (fun os started H enc _ F => by rw [OpenClaim.pre_eq_preRow]; exact tJ os started H enc F)
end Go.Proofs.YtgaipdillmleeaaGreat
end
