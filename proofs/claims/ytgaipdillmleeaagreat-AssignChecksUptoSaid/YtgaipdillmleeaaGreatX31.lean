/- Joined by my own program, in build order: Cmth, CP, Mu, Pk, Eq2, Ty, On, Bk0, Bk1, Run, ARP, GrowE, Cat, Vnp, Step, RR, RO, RS, SR, PL, Su, Live8, Def, De, Bk. -/
import Derived.Test.YtgaipdillmleeaaGreatX30
import Derived.Test.YtgaipdillmleeaaGreatX29
import Derived.Lib.Walk
import Derived.Lib.SliceRun
import Derived.Lib.AppendZerosOnto
import Derived.Sort.Walk0
import Derived.Test.YtgaipdillmleeaaGreatX26
set_option linter.unusedVariables false
set_option linter.unusedSimpArgs false
section
namespace Go.Proofs.YtgaipdillmleeaaGreat
namespace V
open Go.RowKit
theorem PV (l : List Slot) (hl : l.length ≤ 1048576) (m : Mem) : COk Tryz.prog 35 [.c (.sl (l.map aJ))] m (.c (.sl (l.map aJ))) :=
 Qk Tryz.yE Aa (by decide) (enters_of Tryz.func35 (by kernel_rfl) rfl) (l.map aJ) (fun x hx => by obtain ⟨y, -, rfl⟩ := List.mem_map.1 hx; rfl) JK m
def z8 (cs : List Class) (n : ByteArray) (x : Nat × Nat) : Option (Method × ByteArray) := match cs[x.2]? with | some k => (k.methods.find? (fV n)).map (·, k.name) | none => none
def xK (cs : List Class) (n : ByteArray) (l : List (Nat × Nat)) : Option (Method × ByteArray) := l.findSome? (z8 cs n)
def jd (E : Int) (cs : List Class) (cn n : ByteArray) : Option (Method × ByteArray) := if E = 0 then xK cs n (upX cs (cs.length + 1) 0 cn) else none
def q8 (cs : List Class) : Prop := ∀ c ∈ cs, ∀ m ∈ c.methods, m.body.length ≤ 1048576 ∧ eX 1048576 m.body
theorem Rx {α : Type} {f : α → Bool} {l : List α} {k : Nat} {x : α} (h0 : (l.take k).find? f = none) (hx : l[k]? = some x) (hr : f x = true) : l.find? f = some x := by
 obtain ⟨h1, h2⟩ := List.getElem?_eq_some_iff.1 hx;have e : l = l.take k ++ x :: l.drop (k + 1) := by rw [← h2, ← List.drop_eq_getElem_cons h1, List.take_append_drop]
 rw [e, List.find?_append, h0];simp [hr]
theorem FJ {α β : Type} {f : α → Option β} {l : List α} {k : Nat} {x : α} {r : β} (h0 : (l.take k).findSome? f = none) (hx : l[k]? = some x) (hr : f x = some r) : l.findSome? f = some r := by
 obtain ⟨h1, h2⟩ := List.getElem?_eq_some_iff.1 hx;have e : l = l.take k ++ x :: l.drop (k + 1) := by rw [← h2, ← List.drop_eq_getElem_cons h1, List.take_append_drop]
 rw [e, List.findSome?_append, h0];simp [hr]
def jf (cs : List Class) (mn : C) (n : ByteArray) (c6 : List C) (nm : ByteArray) (b : Bool) : Mem :=
 upd (upd (upd (upd (upd Mem.nil 3 (some (.box 25 [.c (.sl (cs.map au)), .c mn]))) 5 (some (.box 9 [.c (.str n)]))) 6 (some (.box 44 (c6.map A.c)))) 7 (some (.box 9 [.c (.str nm)]))) 8 (some (.box 4 [.c (.bool b)]))
def qx : Nat → A := upd (upd (upd (upd (upd (fun _ => .top) 3 (.ptr 3 0)) 5 (.ptr 5 0)) 6 (.ptr 6 0)) 7 (.ptr 7 0)) 8 (.ptr 8 0)
set_option maxRecDepth 100000 in
set_option maxHeartbeats 4000000 in
theorem H8 (p : Program) (E : Int) (cn n : ByteArray) (hS : fu p.classes) (hB : q8 p.classes) (hlen : p.classes.length ≤ 1000000000) (hchk : ∀ m, COk Tryz.prog 16 [.agg (bI p)] m (.c (.int .i64 E))) (m : Mem) :
 COk Tryz.prog 120 [.agg (bI p), .c (.str cn), .c (.str n)] m (.tup (iR (jd E p.classes cn n))) := by
 obtain ⟨cs, mn'⟩ := p
 dsimp only at hS hB hlen hchk ⊢
 generalize hmn : C.sl (aO mn') = mn
 have hpr : bI ⟨cs, mn'⟩ = [.sl (cs.map au), mn] := by rw [← hmn]; rfl
 rw [hpr] at hchk ⊢
 refine (wE ah Tryz.func120 (by kernel_rfl) rfl rfl (by rfl) (by rfl) (by rfl) (fun R hkeep => ?_) m)
 refine W.go ?_
 refine W.bR ah 0 (by decide) ?_
 refine xs0 1 ?_
 refine av rfl rfl rfl rfl rfl (by simp) cw1 (hchk _) ?_
 refine xe0 ?_
 refine W.cond rfl ?_ ?_
 ·intro h
  have he : E ≠ 0 := by simpa using h
  refine W.go ?_
  refine W.ret ⟨.inr rfl, .inl ⟨rfl, ?_⟩⟩
  simp only [Tryz.f120, aU, ay, toT, fin, exb, simprocAttr]
  simp [jd, he, iR, aI, zeroMethod, aO]
 intro h
 have he : E = 0 := by simpa using h
 subst he
 refine W.go ?_
 refine W.Jg 6 2 rfl rfl ?_
 refine W.Jg 6 3 rfl rfl ?_
 refine W.bR ah 0 (by decide) ?_
 refine xs0 2 ?_
 refine jo rfl rfl rfl rfl rfl rfl (by simp) cw2 (Kg (cs.map au) mn cn _ 1000 1001 rfl rfl (by decide)) ?_
 refine xe0 ?_
 refine W.go ?_
 have hG : ∀ c6 nm b, GoodM R.keep qx 1000 1001 1002 1003 (jf cs mn n c6 nm b) := fun c6 nm b => by
  refine ⟨?_, rfl, rfl, rfl, rfl, ?_, aQ hkeep⟩
  ·unfold jf;exact VG
  ·show SWf _ _;unfold jf qx;exact Wx
 refine W.zw cs cn mn 1000 1001 1002 1003 qx (fun k => jf cs mn n (aI zeroMethod) ⟨#[]⟩ false) (fun k => xK cs n ((upX cs (cs.length + 1) 0 cn).take k) = none) (by omega) rfl rfl rfl (by decide) rfl rfl (by decide) rfl rfl ?sle ?sn ?m0 (fun k _ => hG _ _ _) ?round ?done
 case sle =>
  unfold qx;exact Uq
 case sn =>
  unfold qx;exact Pw
 case m0 =>
  refine vk ?_;unfold jf;(repeat (first | exact aV _ | exact aF _ | refine aT ?_ (by first | rfl | (simp only [ak, aB, Nat.reduceEqDiff, reduceIte, aI, zeroMethod, aO, List.map_nil, List.map_cons, List.set_cons_zero, List.set_cons_succ]; done))))
 case round =>
  intro R' l hk' k j kc x1 x2 xL hInv hitem hkc;refine M8 ?_;refine ⟨rfl, fun xL' => ?_⟩;refine M8 ?_;have hkeepL : ∀ j, R'.keep j → (upd (bH (jf cs mn n (aI zeroMethod) ⟨#[]⟩ false) 1000 1001 1002 1003 x1 x2 xL') 10 (some (.box 42 ((au kc).map A.c))) j).isSome = true := fun j hj => by
   rw [hk'] at hj;unfold upd;split
   ·rfl
   ·exact iP (hG _ _ _) hj
  refine WI.loop (ι := Nat) (fun q => ⟨upd (upd (upd (upd (upd (upd (upd (upd (upd (fun _ => .top) 3 (.ptr 3 0)) 5 (.ptr 5 0)) 6 (.ptr 6 0)) 7 (.ptr 7 0)) 8 (.ptr 8 0)) 10 (.ptr 10 0)) 23 (.c (.sl (kc.methods.map aI)))) 24 (.c (.int .i64 kc.methods.length))) 25 (.c (.int .i64 q)),
   upd (bH (jf cs mn n (aI zeroMethod) ⟨#[]⟩ false) 1000 1001 1002 1003 x1 x2 xL') 10 (some (.box 42 ((au kc).map A.c)))⟩) (fun q => q ≤ kc.methods.length ∧ (kc.methods.take q).find? (fV n) = none) (fun q => kc.methods.length - q) 0 ?start ⟨Nat.zero_le _, rfl⟩ ?round
  case start =>
   simp only [bH, jf];refine dU ?sle ?mle ?swf ?mwf hkeepL (by rfl)
   case swf => repeat (first | exact bP _ | refine bQ ?_ (by simp [A.ids, ak, au, bH, jf]))
   case mwf => repeat (first | exact d9 _ | refine dS ?_ (by simp [A.ids, O.ids, ak, au, bH, jf]))
   case mle => repeat (first | exact aV _ | exact aF _ | refine aT ?_ (by first | rfl | (simp only [ak, aB, O.kill, A.kill, Nat.reduceEqDiff, reduceIte, Option.map_some, Option.map_none, List.map_cons, List.map_nil, au, bH, jf]; done)))
   case sle => repeat (first | exact aM _ | exact aH _ | refine aL ?_ (by first | rfl | (simp only [ak, bB, A.kill, aD, aC, Nat.reduceEqDiff, reduceIte, au, bH, jf]; done)))
  case round =>
   rintro q ⟨hq, hno⟩;refine M8 ?_;refine WI.cond rfl ?_ ?_
   ·intro hlt;replace hlt := dtl hlt;obtain ⟨y, hy⟩ : ∃ y, kc.methods[q]? = some y := ⟨_, List.getElem?_eq_getElem hlt⟩
    repeat (first | refine WI.seq ?_ | refine WI.block ?_ | refine WI.skip ?_ | refine WI.exit ?_ | refine WI.region ah 0 (by decide) (by kernel_rfl) (aR (by simp only [exb, simprocAttr, bH, jf, qx, au, bA hy, aI]; rfl)) ?_)
    refine WI.cond rfl ?_ ?_
    ·intro heq
     have hyb := hB kc (List.mem_of_getElem? hkc) y (List.mem_of_getElem? hy)
     have hyp := (hS kc (List.mem_of_getElem? hkc)).2.2 y (List.mem_of_getElem? hy)
     have hfm : kc.methods.find? (fV n) = some y := Rx hno hy heq
     have hres : jd 0 cs cn n = some (y, kc.name) := by
      unfold jd xK;rw [if_pos rfl];exact FJ hInv hitem (by simp [z8, hkc, hfm])
     repeat (first | refine WI.seq ?_ | refine WI.block ?_ | refine WI.skip ?_ | refine WI.exit ?_ | refine WI.region ah 0 (by decide) (by kernel_rfl) (aR (by simp only [exb, simprocAttr, bH, jf, qx, au, aI]; rfl)) ?_)
     refine WI.bR ah 0 (by decide) (by kernel_rfl) ?_
     refine aj 2 Z9 ?_
     refine av rfl rfl rfl rfl rfl (by simp) cw1 (PV y.params hyp _) ?_
     refine aA Z9 ?_
     repeat (first | refine WI.seq ?_ | refine WI.block ?_ | refine WI.skip ?_ | refine WI.exit ?_ | refine WI.region ah 0 (by decide) (by kernel_rfl) (aR Zk) ?_)
     refine WI.bR ah 0 (by decide) (by kernel_rfl) ?_
     refine aj 2 Zk ?_
     refine av rfl rfl rfl rfl rfl (by simp) cw1 (F.Nw (jE y.body) y.body (Nat.le_refl _) hyb.1 hyb.2 _) ?_
     refine aA Zk ?_
     refine WI.seq ?_
     refine WI.JC ah 0 bC (by decide) (by kernel_rfl) ?_
     repeat' (first | refine Exists.intro _ (And.intro Zk ?_) | refine wN (i := 0) (j := 1) aK rfl rfl ?_ ?_ | refine wN (i := 1) (j := 3) aK rfl rfl ?_ ?_ | refine wN (i := 0) (j := 2) aK rfl rfl ?_ ?_ | refine wN (i := 2) (j := 3) aK rfl rfl ?_ ?_ | refine oq (i := 4) aK rfl ?_ | refine oq (i := 5) aK rfl ?_ | refine oq (i := 0) aK rfl ?_ | refine oq (i := 1) aK rfl ?_ | refine oq (i := 2) aK rfl ?_ | refine oq (i := 3) aK rfl ?_ | refine EU aK ?_)
     all_goals
      repeat (first | refine WI.seq ?_ | refine WI.block ?_ | refine WI.skip ?_ | refine WI.exit ?_ | refine WI.region ah 0 (by decide) (by kernel_rfl) (aR Zk) ?_)
      refine WI.ret ⟨fun j => j, jf cs mn n (aI y) kc.name true, Le.toT ?_, hG _ _ _, fun b => ⟨.inr rfl, .inr ⟨b, 1002, rfl, rfl, rfl, ?_⟩⟩⟩
      ·simp only [bH, jf]
       refine dU ?sle ?mle ?swf ?mwf (fun j hj => iP (hG _ _ _) hj) (by rfl)
       case swf => repeat (first | exact bP _ | refine bQ ?_ (by simp [A.ids, ak, au, bH, jf, aI, bf]))
       case mwf => repeat (first | exact d9 _ | refine dS ?_ (by simp [A.ids, O.ids, ak, au, bH, jf, aI, bf]))
       case mle => repeat (first | exact aV _ | exact aF _ | refine aT ?_ (by first | rfl | (simp only [ak, aB, O.kill, A.kill, Nat.reduceEqDiff, reduceIte, Option.map_some, Option.map_none, List.map_cons, List.map_nil, au, bH, jf, aI, bf]; done)))
       case sle => repeat (first | exact aM _ | exact aH _ | refine aL ?_ (by first | rfl | (simp only [ak, bB, A.kill, aD, aC, Nat.reduceEqDiff, reduceIte, au, bH, jf, aI, bf]; done)))
      ·simp only [Tryz.f120, aU, ay, toT, fin, eP, fF, DID, exb, simprocAttr, jf, qx, hres, iR, aI]
    ·intro hneq;refine M8 ?_;refine ⟨q + 1, ⟨hlt, ?_⟩, by omega, ?_⟩
     ·rw [List.take_add_one, hy, List.find?_append, hno];simpa [fV] using hneq
     simp only [bH, jf];refine dU ?sle ?mle ?swf ?mwf hkeepL (by rfl)
     case swf => repeat (first | exact bP _ | refine bQ ?_ (by simp [A.ids, ak, au, bH, jf, aP (show q + 1 < 9223372036854775808 by have := (hS kc (List.mem_of_getElem? hkc)).2.1; omega)]))
     case mwf => repeat (first | exact d9 _ | refine dS ?_ (by simp [A.ids, O.ids, ak, au, bH, jf, aP (show q + 1 < 9223372036854775808 by have := (hS kc (List.mem_of_getElem? hkc)).2.1; omega)]))
     case mle => repeat (first | exact aV _ | exact aF _ | refine aT ?_ (by first | rfl | (simp only [ak, aB, O.kill, A.kill, Nat.reduceEqDiff, reduceIte, Option.map_some, Option.map_none, List.map_cons, List.map_nil, au, bH, jf, aP (show q + 1 < 9223372036854775808 by have := (hS kc (List.mem_of_getElem? hkc)).2.1; omega)]; done)))
     case sle => repeat (first | exact aM _ | exact aH _ | refine aL ?_ (by first | rfl | (simp only [ak, bB, A.kill, aD, aC, Nat.reduceEqDiff, reduceIte, au, bH, jf, aP (show q + 1 < 9223372036854775808 by have := (hS kc (List.mem_of_getElem? hkc)).2.1; omega)]; done)))
   ·intro hge;replace hge := dnl hge;obtain rfl : q = kc.methods.length := by omega
    rw [List.take_length] at hno;refine M8 ?_;refine ⟨?_, fun j => j, Le.toT ?_⟩
    ·show xK cs n ((upX cs (cs.length + 1) 0 cn).take (k + 1)) = none;unfold xK at *;rw [List.take_add_one, hitem, List.findSome?_append, hInv];simp [z8, hkc, hno]
    ·simp only [bH, jf];refine dU ?sle ?mle ?swf ?mwf (fun j hj => iP (hG _ _ _) hj) (by rfl)
     case swf => repeat (first | exact bP _ | refine bQ ?_ (by simp [A.ids, ak, bH, jf]))
     case mwf => repeat (first | exact d9 _ | refine dS ?_ (by simp [A.ids, O.ids, ak, bH, jf]))
     case mle => repeat (first | exact aV _ | exact aF _ | refine aT ?_ (by first | rfl | (simp only [ak, aB, O.kill, A.kill, Nat.reduceEqDiff, reduceIte, Option.map_some, Option.map_none, List.map_cons, List.map_nil, bH, jf]; done)))
     case sle => repeat (first | exact aM _ | exact aH _ | refine aL ?_ (by first | rfl | (simp only [ak, bB, A.kill, aD, aC, Nat.reduceEqDiff, reduceIte, bH, jf]; done)))
 case done =>
  intro hI b;rw [List.take_length] at hI
  repeat (first | refine W.q ?_ | refine W.g ?_ (by simp only [exb, simprocAttr, eP, fF, DID, jf, qx]; rfl))
  refine RZ ?_;simp only [Tryz.f120, aU, ay, toT, fin, eP, fF, DID, exb, simprocAttr, jf];simp [jd, hI, iR, aI, zeroMethod, aO]
def iB {α β : Type} (p : α → β → Bool) : List α → List β → Bool
 | [], [] => true
 | x :: l, y :: r => p x y && iB p l r
 | _, _ => false
theorem oW {α β : Type} {p : α → β → Bool} : ∀ {l : List α} {r : List β}, l.length ≠ r.length → iB p l r = false
 | [], [], h => absurd rfl h
 | [], _ :: _, _ => rfl
 | _ :: _, [], _ => rfl
 | x :: l, y :: r, h => by
   simp only [iB, oW (p := p) (l := l) (r := r) (by simpa using h), Bool.and_false]
theorem og {α β : Type} {p : α → β → Bool} : ∀ {l l' : List α} {r r' : List β}, l.length = r.length → iB p (l ++ l') (r ++ r') = (iB p l r && iB p l' r')
 | [], l', [], r', _ => by simp [iB]
 | [], _, _ :: _, _, h => by simp at h
 | _ :: _, _, [], _, h => by simp at h
 | x :: l, l', y :: r, r', h => by
   have ih := og (p := p) (l := l) (l' := l') (r := r) (r' := r') (by simpa using h);simp only [List.cons_append, iB, ih, Bool.and_assoc]
theorem qF {α β : Type} {p : α → β → Bool} {l : List α} {r : List β} {k : Nat} {x : α} {y : β} (h : l.length = r.length) (hx : l[k]? = some x) (hy : r[k]? = some y) (ht : iB p (l.take k) (r.take k) = true) : iB p (l.take (k + 1)) (r.take (k + 1)) = p x y := by
 rw [List.take_add_one, List.take_add_one, hx, hy, og (by simp [h]), ht];simp [iB]
theorem xY {α β : Type} {p : α → β → Bool} {l : List α} {r : List β} {k : Nat} (h : l.length = r.length) (ht : iB p (l.take k) (r.take k) = false) : iB p l r = false := by
 have e1 : l = l.take k ++ l.drop k := (List.take_append_drop _ _).symm;have e2 : r = r.take k ++ r.drop k := (List.take_append_drop _ _).symm;rw [e1, e2, og (by simp [h]), ht]; rfl
abbrev tNo : ByteArray := ⟨#[]⟩
def isT (a b : ByteArray) : Bool := a.toList == b.toList
abbrev mI (a b : List ByteArray) : Bool := iB isT a b
abbrev AA (cs : List Class) (a : List ByteArray) (b : List Slot) : Bool := iB (fun t s => mY 0 cs t s.type) a b
def wX (n : ByteArray) (s : Slot) : Bool := s.name.toList == n.toList
def kE (l : List Slot) (n : ByteArray) : Option ByteArray := (l.find? (wX n)).map (·.type)
def hdT (l : List ByteArray) : ByteArray := l.headD tNo
def vG (cs : List Class) (a b : ByteArray) : Bool :=
 (isT a bO && isT b bO) || (!(isT a bO) && !(isT b bO) && ((isT a iG && isT b iG) || mY 0 cs a b || mY 0 cs b a))
def eD (cs : List Class) (inn : ByteArray) (env : List Slot) (k : Int) (nm : ByteArray) (ls : List ByteArray) : Option ByteArray :=
 if k = 2 then some iG
 else if k = 3 then (if isT inn tNo = true then none else some inn)
 else if k = 4 then (match kE env nm with | some t => if isT t tNo = true then none else some t | none => none)
 else if k = 5 then (if cs.any (lF nm) = true then some nm else none)
 else if k = 6 then (if mI ls [bO] = true then some gZ else none)
 else if k = 7 then kE (iK 0 cs (hdT ls)) nm
 else if k = 8 then (if mI ls [gZ, bO] = true then some bO else none)
 else if k = 9 then (if mI ls [gZ] = true then some bO else none)
 else if k = 10 then (match jd 0 cs (hdT ls) nm with | some (m, _) => if AA cs ls.tail m.params = true then some m.type else none | none => none)
 else if k = 12 then (if mI ls [bO] = true then some bO else none)
 else if k = 13 ∨ k = 14 ∨ k = 15 ∨ k = 16 ∨ k = 17 then (if mI ls [bO, bO] = true then some bO else none)
 else if k = 18 then (if vG cs (hdT ls) (hdT ls.tail) = true then some bO else none)
 else some bO
mutual
def pX (cs : List Class) (inn : ByteArray) (env : List Slot) : Expr → Option ByteArray
 | ⟨k, _, nm, kids⟩ => (gU cs inn env kids).bind (eD cs inn env k nm)
def gU (cs : List Class) (inn : ByteArray) (env : List Slot) : List Expr → Option (List ByteArray)
 | [] => some []
 | x :: l => match pX cs inn env x with
   | some t => (gU cs inn env l).map (t :: ·)
   | none => none
end
def kr (cs : List Class) (inn ret : ByteArray) (env : List Slot) (k : Int) (ty : ByteArray) (ts : List ByteArray) : Bool :=
 if k = 1 then bJ cs ty && (ts.isEmpty || mY 0 cs (hdT ts) ty)
 else if k = 2 then mY 0 cs (hdT ts.tail) (hdT ts)
 else if k = 3 ∨ k = 4 ∨ k = 5 then isT (hdT ts) bO
 else if k = 6 then !(isT ret tNo) && mY 0 cs (hdT ts) ret
 else true
mutual
def pI (cs : List Class) (inn ret : ByteArray) (env : List Slot) : Stmt → Bool
 | ⟨k, _, ty, nm, es, th, el⟩ => (match gU cs inn env es with | some ts => kr cs inn ret env k ty ts | none => false) && dR cs inn ret env th && dR cs inn ret env el
def dR (cs : List Class) (inn ret : ByteArray) (env : List Slot) : List Stmt → Bool
 | [] => true
 | x :: l => pI cs inn ret env x && dR cs inn ret (if x.kind = 1 then env ++ [⟨x.type, x.name⟩] else env) l
end
mutual
def Dh : Stmt → List ByteArray
 | ⟨k, _, _, nm, _, th, el⟩ => (if k = 1 then [nm] else []) ++ bE th ++ bE el
def bE : List Stmt → List ByteArray
 | [] => []
 | x :: l => Dh x ++ bE l
end
def uN (seen : List ByteArray) : List ByteArray → Bool
 | [] => true
 | x :: l => !(seen.any fun y => y.toList == x.toList) && uN (seen ++ [x]) l
def gQ (cs : List Class) (inn ret : ByteArray) (params : List Slot) (body : List Stmt) : Bool :=
 params.all (fun s => bJ cs s.type) && uN (params.map (·.name)) (bE body) && dR cs inn ret params body
def lW (cs : List Class) (c : Class) : Bool :=
 c.fields.all (fun s => bJ cs s.type) && c.methods.all fun m => bJ cs m.type && gQ cs c.name m.type m.params m.body
def kR (p : Program) : Bool := gQ p.classes tNo tNo [] p.main && p.classes.all (lW p.classes)
def ru (p : Program) : Int := if eO (oh p) p.classes = 0 then (if kR p = true then 0 else 70) else eO (oh p) p.classes
end V
end Go.Proofs.YtgaipdillmleeaaGreat
end
section
namespace Go.Proofs.YtgaipdillmleeaaGreat
namespace V
open Go.RowKit
def fU : List PanicEntry := [{ v := .iface 79 (.agg #[]), recovered := false }]
def EO : Tab := { tab with fields := fun t => if t = 79 then some [] else tab.fields t, zero := fun t => if t = 79 then some [] else tab.zero t }
namespace M
theorem ah : EO.Ok Tryz.prog := ⟨V.ah.ty, fun t vs h => by
 by_cases e : t = 79
 ·subst e;have h : some [] = some vs := by simpa [EO] using h
  cases h
  have hz : (Tryz.prog.info? 79).map (·.zero) = some (some (.agg #[])) := by kernel_rfl
  obtain ⟨i, hi, hz⟩ := Option.map_eq_some_iff.1 hz;exact ⟨i, .agg #[], hi, hz, by rfl, fun v hv => by cases hv⟩
 ·exact V.ah.zero t vs (by simpa [EO, e] using h), V.ah.elem, V.ah.off, V.ah.bool, fun t l h => by
 by_cases e : t = 79
 ·subst e;have h : some [] = some l := by simpa [EO] using h
  cases h
  refine ⟨#[], by kernel_rfl, by rfl⟩
 ·exact V.ah.fields t l (by simpa [EO, e] using h), V.ah.bytes, V.ah.nilk, V.ah.int, V.ah.map, V.ah.str, V.ah.one, V.ah.seq⟩
theorem tabs : EO.fields 79 = some [] ∧ EO.zero 79 = some [] ∧ EO.ty = tab.ty := ⟨rfl, rfl, rfl⟩
theorem xE (b : Bool) (m : Mem) : TOk Tryz.prog 19 [.c (.bool b)] m fU (if b = true then some (.tup []) else none) := by
 refine (wC ah (ch := fU) (if b = true then some (.tup []) else none) Tryz.func19 (by kernel_rfl) rfl rfl (by rfl) ?rid (by rfl) (fun R hkeep => ?_) m)
 case rid => rintro x hx; first | (cases hx; rfl) | (split at hx <;> first | (cases hx; rfl) | cases hx) | (obtain ⟨y, -, rfl⟩ := Option.map_eq_some_iff.1 hx; rfl)
 refine W.go ?_;cases b with
 | true =>
   refine GR ?_;refine ⟨by rfl, .inl rfl, ?_⟩;simp only [Tryz.f19, aU, ay, toT, fin, exb, simprocAttr]
 | false =>
   refine jA ?_;refine Z0 ?_;refine aA (by simp only [exb, simprocAttr, tabs]; rfl) ?_;refine ⟨_, Oi rfl rfl (fun B w I v hv => ?_), by rfl, rfl⟩;obtain ⟨u, rfl, us, rfl, h⟩ := hv;cases us with
   | nil => rfl
   | cons a l => cases h
end M
open M (xE)
theorem Bv (m : Mem) : COk Tryz.prog 19 [.c (.bool true)] m (.tup []) := xE true m
theorem nI (m : Mem) : XOk Tryz.prog 19 [.c (.bool false)] m fU := xE false m
theorem Pm (a b : List ByteArray) (ha : a.length ≤ 1000000000) (m : Mem) : COk Tryz.prog 117 [.c (.sl (a.map cStr)), .c (.sl (b.map cStr))] m (.c (.bool (mI a b))) := by
 refine (aS ah Tryz.func117 (by kernel_rfl) rfl rfl (by rfl) (by rfl) (by rfl) (fun R hkeep => ?_) m);by_cases hl : a.length = b.length
 ·have hd : decide ((a.length : Int) = (b.length : Int)) = true := by simp [hl]
  repeat (first | refine W.q ?_ | refine W.g ?_ FE)
  refine GR ?_;refine W.loop (ι := Nat) (fun k => ⟨upd (upd (upd (upd (fun _ => .top) 0 (.c (.sl (a.map cStr)))) 1 (.c (.sl (b.map cStr)))) 12 (.c (.int .i64 a.length))) 13 (.c (.int .i64 k)), Mem.nil⟩) (fun k => k ≤ a.length ∧ mI (a.take k) (b.take k) = true) (fun k => a.length - k) 0 ?start ⟨Nat.zero_le _, by simp [iB]⟩ ?round
  case start =>
   exact YI
  case round =>
   rintro k ⟨hk, hall⟩;refine W.go ?_;refine W.cond rfl ?_ ?_
   ·intro hlt;replace hlt := dtl hlt;obtain ⟨x, hx⟩ : ∃ x, a[k]? = some x := ⟨_, List.getElem?_eq_getElem hlt⟩;obtain ⟨y, hy⟩ : ∃ y, b[k]? = some y := ⟨_, List.getElem?_eq_getElem (by omega)⟩;have ht := qF (p := isT) hl hx hy hall;refine W.go ?_;refine zm5 ?_;refine aA (by simp only [exb, simprocAttr, bA hx, bA hy, cStr]; rfl) ?_;refine W.cond rfl ?_ ?_
    ·intro hne;have hf : isT x y = false := by unfold isT; simpa using hne
     refine zm6 ?_;simp only [Tryz.f117, aU, ay, toT, fin, exb, simprocAttr];simp only [mI, xY (k := k + 1) hl (ht.trans hf)]
    ·intro heq;have hf : isT x y = true := by unfold isT; simpa using heq
     refine W.go ?_;refine ⟨k + 1, ⟨hlt, ht.trans hf⟩, by omega, ?_⟩;exact O9
   ·intro hge;replace hge := dnl hge;obtain rfl : k = a.length := by omega
    rw [List.take_length, hl, List.take_length] at hall;refine W.go ?_;refine W.rt ?_;simp only [Tryz.f117, aU, ay, toT, fin, exb, simprocAttr, hall]
 ·have hd : decide ((a.length : Int) = (b.length : Int)) = false := by simp; omega
  repeat (first | refine W.q ?_ | refine W.g ?_ FE)
  refine jA ?_;refine W.go ?_;refine W.rt ?_;simp only [Tryz.f117, aU, ay, toT, fin, exb, simprocAttr, oW hl]
theorem iW (ts l : List ByteArray) (hl : l.length ≤ 1000000000) (m : Mem) : TOk Tryz.prog 116 [.c (.sl (ts.map cStr)), .rptr [.sl (l.map cStr)]] m fU (if mI l ts = true then some (.tup []) else none) := by
 have he := Pm l ts hl;refine (wC ah (ch := fU) (if mI l ts = true then some (.tup []) else none) Tryz.func116 (by kernel_rfl) rfl rfl (by rfl) ?rid (by rfl) (fun R hkeep => ?_) m)
 case rid => rintro x hx; first | (cases hx; rfl) | (split at hx <;> first | (cases hx; rfl) | cases hx) | (obtain ⟨y, -, rfl⟩ := Option.map_eq_some_iff.1 hx; rfl)
 cases hb : mI l ts with
 | true =>
   rw [hb] at he;refine W.go ?_;refine zm1 ?_;refine xs0 2 ?_;refine av rfl rfl rfl rfl rfl (by simp) cw2 (he _) ?_;refine xs0 0 ?_;refine zm7 ?_;refine ⟨by rfl, .inl rfl, ?_⟩;simp only [Tryz.f116, aU, ay, toT, fin, exb, simprocAttr]
 | false =>
   rw [hb] at he;refine W.tK (base := 0) (ch := fU) ah 3 (by decide) rfl ?_;refine xs0 2 ?_;refine av rfl rfl rfl rfl rfl (by simp) cw2 (he _) ?_;exact TN
end V
end Go.Proofs.YtgaipdillmleeaaGreat
end
section
namespace Go.Proofs.YtgaipdillmleeaaGreat
namespace V
open Go.RowKit
theorem I6 (l : List Slot) (f : FuncId) (caps : List (List C)) (p : Slot → Bool) (hlen : l.length ≤ 1000000000000) (hk : ∀ x ∈ l, ∀ m, COk Tryz.prog f (.agg (aJ x) :: caps.map A.rptr) m (.c (.bool (p x)))) (m : Mem) : COk Tryz.prog 146 [.c (.sl (l.map aJ)), .fnR f caps] m (.c (.int .i64 (dO p l))) := by
 refine (aS ah Tryz.func146 (by kernel_rfl) rfl rfl (by rfl) (by rfl) (by rfl) (fun R hkeep => ?_) m);refine W.go ?_;refine W.loop (ι := Nat) (fun k => ⟨upd (upd (upd (upd (upd (fun _ => .top) 0 (.c (.sl (l.map aJ)))) 1 (.fnR f caps)) 4 (.c (.int .i64 0))) 7 (.c (.int .i64 l.length))) 8 (.c (.int .i64 k)), Mem.nil⟩) (fun k => k ≤ l.length ∧ (l.take k).any p = false) (fun k => l.length - k) 0 ?start ⟨Nat.zero_le _, rfl⟩ ?round
 case start =>
  exact Ae
 case round =>
  rintro k ⟨hkl, hno⟩;refine W.go ?_;refine W.cond rfl ?_ ?_
  ·intro hlt;replace hlt := dtl hlt;obtain ⟨x, hx⟩ : ∃ x, l[k]? = some x := ⟨_, List.getElem?_eq_getElem hlt⟩;refine W.go ?_;refine zm1 ?_;refine aj 5 JX ?_;refine X3 ?_;refine W.cond rfl ?_ ?_
   ·intro hp;refine zm6 ?_;simp only [Tryz.f146, aU, ay, toT, fin, exb, simprocAttr];rw [zn hno hx hp]
   ·exact W9
  ·intro hge;replace hge := dnl hge;obtain rfl : k = l.length := by omega
   rw [List.take_length] at hno;refine zm6 ?_;simp only [Tryz.f146, aU, ay, toT, fin, exb, simprocAttr];rw [iC hno]
theorem Da {α : Type} (p : α → Bool) : ∀ l : List α, (dO p l = -1 ∧ l.find? p = none) ∨ ∃ k x, dO p l = ((k : Nat) : Int) ∧ l[k]? = some x ∧ l.find? p = some x
 | [] => .inl ⟨rfl, rfl⟩
 | x :: l => by
   unfold dO;cases hp : p x with
   | true => exact .inr ⟨0, x, by simp, rfl, by simp [hp]⟩
   | false =>
     rcases Da p l with ⟨h1, h2⟩ | ⟨k, y, h1, h2, h3⟩
     ·exact .inl ⟨by simp [h1], by simp [hp, h2]⟩
     ·refine .inr ⟨k + 1, y, ?_, by simpa using h2, by simp [hp, h3]⟩;have : ¬ (dO p l = -1) := by omega
      simp [this, h1]
theorem Lm (n : ByteArray) (s : Slot) (m : Mem) : COk Tryz.prog 147 [.agg (aJ s), .rptr [.str n]] m (.c (.bool (wX n s))) := by
 refine (aS ah Tryz.func147 (by kernel_rfl) rfl rfl (by rfl) (by rfl) (by rfl) (fun R hkeep => ?_) m)
 repeat (first | refine W.q ?_ | refine W.g ?_ (by simp only [exb, simprocAttr, aJ]; rfl))
 refine W.rt ?_;simp only [Tryz.f147, aU, ay, toT, fin, exb, simprocAttr, aJ] <;> rfl
theorem CB (l : List Slot) (n : ByteArray) (hl : l.length ≤ 1000000000) (m : Mem) : TOk Tryz.prog 118 [.c (.sl (l.map aJ)), .c (.str n)] m fU ((kE l n).map fun t => .c (.str t)) := by
 refine (wC ah (ch := fU) ((kE l n).map fun t => A.c (.str t)) Tryz.func118 (by kernel_rfl) rfl rfl (by rfl) ?rid (by rfl) (fun R hkeep => ?_) m)
 case rid => rintro x hx; first | (cases hx; rfl) | (split at hx <;> first | (cases hx; rfl) | cases hx) | (obtain ⟨y, -, rfl⟩ := Option.map_eq_some_iff.1 hx; rfl)
 refine W.go ?_;refine zm1 ?_;refine xs0 2 ?_;refine fJ rfl rfl rfl rfl rfl (by simp) (bM fO (bM (Ar (qB rfl rfl)) gJ)) (by rfl) (by rfl) (I6 l 147 [[.str n]] (wX n) (by omega) (fun x _ m => Lm n x m)) ?_;refine xe0 ?_;rcases Da (wX n) l with ⟨h1, h2⟩ | ⟨k, x, h1, h2, h3⟩
 ·rw [h1];have hr : kE l n = none := by unfold kE; rw [h2]; rfl
  rw [hr];refine zm4 ?_;refine Z0 ?_;exact TN
 ·rw [h1];have hr : kE l n = some x.type := by unfold kE; rw [h3]; rfl
  rw [hr];have hk : decide ((0 : Int) ≤ (k : Int)) = true := by simp
  have hk0 : (0 : Int) ≤ (k : Int) := by omega
  obtain ⟨xt, xn⟩ := x;refine zm4 ?_;refine zm1 ?_;refine aj 2 (by simp only [exb, simprocAttr, hk]; rfl) ?_;refine zm7 ?_
  repeat (first | refine W.q ?_ | refine W.g ?_ (by simp only [exb, simprocAttr, hk0, Int.toNat_natCast, bA h2, aJ]; rfl))
  refine aa8 ?_;simp only [Tryz.f118, aU, ay, toT, fin, exb, simprocAttr, Option.map_some]
def ckC (cs : List Class) (main : List Stmt) (inn ret : ByteArray) (env : List Slot) : List C := [.sl (cs.map au), .sl (aO main), .str inn, .str ret, .sl (env.map aJ)]
theorem XB (p : Program) (inn ret : ByteArray) (env : List Slot) (hlen : p.classes.length ≤ 1000000000) (hchk : ∀ m, COk Tryz.prog 16 [.agg (bI p)] m (.c (.int .i64 0))) (x : ByteArray) (y : Slot) (M : Mem)
 (h2 : M 2 = some (.box 62 [.rptr (ckC p.classes p.main inn ret env)])) (hfar : ∀ d, M (1000 + d) = none) :
 dJ Tryz.prog 122 [.c (.str x), .agg (aJ y), .ptr 2 0] M [] (.c (.bool (mY 0 p.classes x y.type))) M := by
 have hfit := fun m => zB p 0 [.str inn, .str ret, .sl (env.map aJ)] x y.type hlen hchk m
 obtain ⟨yt, yn⟩ := y
 refine (jN ah [] Tryz.func122 (by kernel_rfl) rfl rfl (by rfl) (by rfl) ?ids ?res ?sub ?wfm (fun hWF Rr hkeep => ?_))
 case ids => intro a ha j hj; simp at ha; rcases ha with rfl | rfl | rfl <;> simp [A.ids] at hj; subst hj; simp [h2]
 case res => intro j hj; simp [A.ids] at hj
 case sub => exact fun j hj => hj
 case wfm => exact fun hw => hw
 have h4 : M 1004 = none := hfar 4
 repeat (first | refine W.q ?_ | refine W.region ah 1000 (by decide) (aR (by simp only [exb, simprocAttr, aJ, h2, h4, ckC]; rfl)) ?_)
 refine W.bR ah 1000 (by decide) ?_
 refine aj 4 (by simp only [exb, simprocAttr, h2, h4, aJ, ckC]; rfl) ?_
 refine av rfl rfl rfl rfl rfl (by simp) cw3 (hfit _) ?_
 refine xe0 ?_
 refine W.ret ⟨.inr rfl, by rfl, ?_, ?mle⟩
 simp only [Tryz.f122, resE, ay, fin, toT, exb, simprocAttr]
 case mle => exact gY (aF _) h4
theorem Nn (p : Program) (inn ret : ByteArray) (env : List Slot) (hlen : p.classes.length ≤ 1000000000) (hchk : ∀ m, COk Tryz.prog 16 [.agg (bI p)] m (.c (.int .i64 0))) (a : List ByteArray) (b : List Slot) (ha : a.length ≤ 1000000000) (M : Mem)
 (h2 : M 2 = some (.box 62 [.rptr (ckC p.classes p.main inn ret env)])) (hfar : ∀ d, M (500 + d) = none) :
 dJ Tryz.prog 121 [.c (.sl (a.map cStr)), .c (.sl (b.map aJ)), .fn 122 [2]] M [] (.c (.bool (AA p.classes a b))) M := by
 have h9 : M 509 = none := hfar 9
 have h2o : ∀ o : O, (upd M 509 (some o)) 2 = some (.box 62 [.rptr (ckC p.classes p.main inn ret env)]) := fun o => by rw [upd_ne _ _ (by decide)]; exact h2
 have hk := fun x y o => XB p inn ret env hlen hchk x y (upd M 509 (some o)) (by rw [upd_ne _ _ (by decide)]; exact h2) (fun d => by rw [upd_ne _ _ (by omega), show 1000 + d = 500 + (500 + d) by omega]; exact hfar _)
 refine (jN ah [] Tryz.func121 (by kernel_rfl) rfl rfl (by rfl) (by rfl) ?ids ?res ?sub ?wfm (fun hWF Rr hkeep => ?_))
 case ids => intro a ha j hj; simp at ha; rcases ha with rfl | rfl | rfl <;> simp [A.ids] at hj; subst hj; simp [h2]
 case res => intro j hj; simp [A.ids] at hj
 case sub => exact fun j hj => hj
 case wfm => exact fun hw => hw
 have kept : ∀ j, Rr.keep j → (M j).isSome = true := fun j hj => by rw [hkeep] at hj; exact hj.1
 by_cases hl : a.length = b.length
 ·have hd : decide ((a.length : Int) = (b.length : Int)) = true := by simp [hl]
  repeat (first | refine W.q ?_ | refine W.region ah 500 (by decide) (aR FE) ?_)
  refine W.cf rfl ?_
  repeat (first | refine W.q ?_ | refine W.region ah 500 (by decide) xr0 ?_)
  refine W.loop (ι := Nat) (fun k => ⟨upd (upd (upd (upd (upd (fun _ => .top) 1 (.c (.sl (b.map aJ)))) 2 (.fn 122 [2])) 15 (.c (.sl (a.map cStr)))) 16 (.c (.int .i64 a.length))) 17 (.c (.int .i64 k)), M⟩) (fun k => k ≤ a.length ∧ AA p.classes (a.take k) (b.take k) = true) (fun k => a.length - k) 0 ?start ⟨Nat.zero_le _, by simp [iB]⟩ ?round
  case start =>
   refine dU ?sle ?mle ?swf ?mwf kept (by rfl)
   case swf => repeat (first | exact bP _ | refine bQ ?_ (by simp [A.ids, ak, h2, List.length_map]))
   case mwf => repeat (first | exact FH hWF (fun i hi => by repeat (first | exact hi | refine cO i ?_)) | refine dS ?_ (by simp [A.ids, O.ids, ak, h2, List.length_map]))
   case mle => repeat (first | exact aF _ | refine aT ?_ (by first | rfl | (simp only [ak, aB, O.kill, A.kill, Nat.reduceEqDiff, reduceIte, Option.map_some, Option.map_none, List.map_cons, List.map_nil, h2, List.length_map]; done)))
   case sle => repeat (first | exact aM _ | exact aH _ | refine aL ?_ (by first | rfl | (simp only [ak, bB, A.kill, aD, aC, Nat.reduceEqDiff, reduceIte, h2, List.length_map]; done)))
  case round =>
   rintro k ⟨hkl, hall⟩;refine R8 ?_;refine W.cond rfl ?_ ?_
   ·intro hlt;replace hlt := dtl hlt;obtain ⟨x, hx⟩ : ∃ x, a[k]? = some x := ⟨_, List.getElem?_eq_getElem hlt⟩;obtain ⟨y, hy⟩ : ∃ y, b[k]? = some y := ⟨_, List.getElem?_eq_getElem (by omega)⟩;have ht := qF (p := fun t s => mY 0 p.classes t s.type) hl hx hy hall;obtain ⟨yt, yn⟩ := y
    repeat (first | refine W.q ?_ | refine W.region ah 500 (by decide) (aR (by simp only [exb, simprocAttr, bA hx, bA hy, cStr, aJ, h9]; rfl)) ?_)
    simp only [bS];refine W.bR ah 500 (by decide) ?_;refine aj 3 (by simp only [exb, simprocAttr, bA hx, bA hy, cStr, aJ]; rfl) ?_;refine bW (D := []) (ids := [2]) rfl rfl rfl rfl rfl (fun j hj => by simp at hj) (by intro j hj; rw [List.mem_singleton] at hj; subst hj; exact ⟨_, _, h2o (.box 46 [.c (.str yt), .c (.str yn)])⟩) (by exact cw3) (hk x ⟨yt, yn⟩ _) ?_;simp only [dw, eY, bS];refine xe0 ?_;refine W.cond rfl ?_ ?_
    ·intro hne;have hf : mY 0 p.classes x yt = false := by simpa using hne
     refine R8 ?_;refine W.ret ⟨.inr rfl, by rfl, ?_, ?mle⟩;simp only [Tryz.f121, resE, ay, fin, toT, exb, simprocAttr]
     ·simp only [AA, xY (k := k + 1) hl (ht.trans hf)]
     case mle => exact gY (aF _) h9
    ·intro heq;have hf : mY 0 p.classes x yt = true := by simpa using heq
     refine R8 ?_;refine ⟨k + 1, ⟨hlt, ht.trans hf⟩, by omega, ?_⟩;refine dU ?sle ?mle ?swf ?mwf (fun j hj => by repeat (first | exact kept j hj | refine cO j ?_)) (by rfl)
     case swf => repeat (first | exact bP _ | refine bQ ?_ (by simp [A.ids, ak, h2]))
     case mwf => exact FH hWF (fun i hi => by repeat (first | exact hi | refine cO i ?_))
     case mle => exact gY (aF _) h9
     case sle => repeat (first | exact aM _ | exact aH _ | refine aL ?_ OD)
   ·intro hge;replace hge := dnl hge;obtain rfl : k = a.length := by omega
    rw [List.take_length, hl, List.take_length] at hall;refine R8 ?_;refine W.ret ⟨.inr rfl, by rfl, ?_, ?mle⟩;simp only [Tryz.f121, resE, ay, fin, toT, exb, simprocAttr, hall]
    case mle => exact aF _
 ·have hd : decide ((a.length : Int) = (b.length : Int)) = false := by simp; omega
  repeat (first | refine W.q ?_ | refine W.region ah 500 (by decide) (aR FE) ?_)
  refine W.ct rfl ?_
  repeat (first | refine W.q ?_ | refine W.region ah 500 (by decide) xr0 ?_)
  refine W.ret ⟨.inr rfl, by rfl, ?_, ?mle⟩
  simp only [Tryz.f121, resE, ay, fin, toT, exb, simprocAttr, oW hl]
  case mle => exact aF _
def vP : Tab := { tab with eff := fun f => f == 121 }
theorem X.ah : vP.Ok Tryz.prog := ⟨V.ah.ty, V.ah.zero, V.ah.elem, V.ah.off, V.ah.bool, V.ah.fields, V.ah.bytes, V.ah.nilk, V.ah.int, V.ah.map, V.ah.str, V.ah.one, V.ah.seq⟩
theorem X.tabs : vP.ty = tab.ty ∧ vP.zero = tab.zero ∧ vP.elem = tab.elem ∧ vP.off = tab.off ∧ vP.bool = tab.bool ∧ vP.fields = tab.fields ∧ vP.bytes = tab.bytes ∧ vP.nilk = tab.nilk ∧ vP.int = tab.int ∧ vP.map = tab.map ∧ vP.str = tab.str ∧ vP.one = tab.one ∧ vP.seq = tab.seq := ⟨rfl, rfl, rfl, rfl, rfl, rfl, rfl, rfl, rfl, rfl, rfl, rfl, rfl⟩
mutual
def yR : Expr → Prop
 | ⟨k, _, _, kids⟩ => (k = 7 → kids.length = 1) ∧ (k = 10 → 1 ≤ kids.length) ∧ (k = 18 → kids.length = 2) ∧ kids.length ≤ 1048576 ∧ nC kids
def nC : List Expr → Prop
 | [] => True
 | x :: l => yR x ∧ nC l
end
theorem nC.mem : ∀ {l : List Expr} {x : Expr}, nC l → x ∈ l → yR x
 | y :: l, x, h, hx => by
   simp only [nC] at h;rcases List.mem_cons.1 hx with rfl | hx
   ·exact h.1
   ·exact nC.mem h.2 hx
theorem o9 (cs : List Class) (inn : ByteArray) (env : List Slot) : ∀ (l : List Expr) (x : Expr) {ts : List ByteArray}, gU cs inn env l = some ts → gU cs inn env (l ++ [x]) = (pX cs inn env x).map fun t => ts ++ [t]
 | [], x, ts, h => by
   simp only [gU] at h;cases h
   simp only [List.nil_append, gU];cases pX cs inn env x <;> rfl
 | y :: l, x, ts, h => by
   simp only [gU] at h;simp only [List.cons_append, gU];cases hy : pX cs inn env y with
   | none => rw [hy] at h; cases h
   | some t =>
     rw [hy] at h;cases hl : gU cs inn env l with
     | none => rw [hl] at h; cases h
     | some us =>
       rw [hl] at h;cases h
       simp only;rw [o9 cs inn env l x hl];cases pX cs inn env x <;> rfl
theorem uS (cs : List Class) (inn : ByteArray) (env : List Slot) : ∀ (l r : List Expr), gU cs inn env l = none → gU cs inn env (l ++ r) = none
 | [], r, h => by simp only [gU] at h; cases h
 | y :: l, r, h => by
   simp only [gU] at h;simp only [List.cons_append, gU];cases hy : pX cs inn env y with
   | none => rfl
   | some t =>
     rw [hy] at h;simp only;cases hl : gU cs inn env l with
     | none => rw [uS cs inn env l r hl]; rfl
     | some us => rw [hl] at h; cases h
theorem Dr (cs : List Class) (inn : ByteArray) (env : List Slot) : ∀ (l : List Expr) {ts : List ByteArray}, gU cs inn env l = some ts → ts.length = l.length
 | [], ts, h => by simp only [gU] at h; cases h; rfl
 | y :: l, ts, h => by
   simp only [gU] at h;cases hy : pX cs inn env y with
   | none => rw [hy] at h; cases h
   | some t =>
     rw [hy] at h;cases hl : gU cs inn env l with
     | none => rw [hl] at h; cases h
     | some us => rw [hl] at h; cases h; simp [Dr cs inn env l hl]
def uz (ts : List ByteArray) (n : Nat) : List (List C) := ts.map cStr ++ List.replicate (n - ts.length) [C.str tNo]
theorem BP (n : Nat) : uz [] n = List.replicate n [C.str tNo] := by simp [uz]
theorem wM {ts : List ByteArray} {n : Nat} {t : ByteArray} (h : ts.length < n) : (uz ts n).set ts.length [C.str t] = uz (ts ++ [t]) n := by
 unfold uz;obtain ⟨d, hd⟩ : ∃ d, n - ts.length = d + 1 := ⟨n - ts.length - 1, by omega⟩;have hd2 : n - (ts ++ [t]).length = d := by rw [List.length_append, List.length_singleton]; omega
 rw [hd, hd2, List.set_append_right _ _ (by simp), List.length_map, Nat.sub_self, List.replicate_succ, List.set_cons_zero, List.map_append, List.append_assoc];rfl
theorem Jz {ts : List ByteArray} {n : Nat} (h : ts.length < n) : (uz ts n)[ts.length]? = some [C.str tNo] := by
 unfold uz;obtain ⟨d, hd⟩ : ∃ d, n - ts.length = d + 1 := ⟨n - ts.length - 1, by omega⟩;rw [hd, List.getElem?_append_right (by simp), List.length_map, Nat.sub_self, List.replicate_succ]; rfl
theorem Dj {ts : List ByteArray} {n : Nat} (h : ts.length = n) : uz ts n = ts.map cStr := by
 unfold uz;rw [h, Nat.sub_self]; simp
theorem Gf {ts : List ByteArray} {n : Nat} (h : ts.length ≤ n) : (uz ts n).length = n := by
 unfold uz;rw [List.length_append, List.length_map, List.length_replicate]; omega
theorem GV {cs : List Class} (hS : fu cs) (hlen : cs.length ≤ 16) (n : ByteArray) : (iK 0 cs n).length ≤ 1000000000 := by
 unfold iK;rw [if_pos rfl];have h1 := qz hS (upX cs (cs.length + 1) 0 n);have h2 := nN cs (cs.length + 1) 0 n;have h3 : (upX cs (cs.length + 1) 0 n).length ≤ 17 := by omega
 have := Nat.mul_le_mul_right 1048576 h3;omega
section
variable (p : Program) (inn ret : ByteArray) (env : List Slot) (hS : fu p.classes) (hB : q8 p.classes) (hlen : p.classes.length ≤ 16) (henv : env.length ≤ 1000000000) (hchk : ∀ m, COk Tryz.prog 16 [.agg (bI p)] m (.c (.int .i64 0)))
include hS hB hlen henv hchk
set_option maxHeartbeats 8000000 in
theorem NR : ∀ (n : Nat) (x : Expr), SizeOf.sizeOf x ≤ n → yR x → ∀ m, TOk Tryz.prog 70 [.rptr (ckC p.classes p.main inn ret env), .agg (cExpr x)] m fU ((pX p.classes inn env x).map fun t => .c (.str t)) := by
 intro n;induction n using Nat.strongRecOn with
 | ind n ih =>
 rintro ⟨k, nn, nm, kids⟩ hn hK m;have hsz := Expr.mk.sizeOf_spec k nn nm kids;simp only [yR] at hK;obtain ⟨k7, k10, k18, kl, kk⟩ := hK;simp only [cExpr, aX];refine (wC ah (ch := fU) ((pX p.classes inn env ⟨k, nn, nm, kids⟩).map fun t => A.c (.str t)) Tryz.func70 (by kernel_rfl) rfl rfl (by rfl) ?rid (by rfl) (fun R hkeep => ?_) m)
 case rid => rintro x hx; first | (cases hx; rfl) | (split at hx <;> first | (cases hx; rfl) | cases hx) | (obtain ⟨y, -, rfl⟩ := Option.map_eq_some_iff.1 hx; rfl)
 have hkl : (kids.length : Int) ≤ 9223372036854775807 := by omega
 have hkb : kids.length * 16 ≤ 140737488355328 := by omega
 repeat (first | refine W.q ?_ | refine W.g ?_ (by simp only [exb, simprocAttr, List.length_map, hkl, hkb, Int.toNat_natCast, Int.natCast_nonneg, and_self]; rfl))
 refine W.loop (ι := List ByteArray) (fun ts => ⟨upd (upd (upd (upd (upd (upd (fun _ => .top) 2 (.ptr 2 0)) 3 (.ptr 3 0)) 5 (.ptr 5 0)) 20 (.c (.sl (kids.map cExpr)))) 21 (.c (.int .i64 kids.length))) 22 (.c (.int .i64 ts.length)),
  upd (upd (upd (upd Mem.nil 2 (some (.box 62 [.rptr (ckC p.classes p.main inn ret env)]))) 3 (some (.box 35 [.c (.int .i64 k), .c (.int .i64 nn), .c (.str nm), .c (.sl (kids.map cExpr))]))) 5 (some (.box 30 [.own 18]))) 18 (some (.mrow 9 1 (uz ts kids.length)))⟩)
  (fun ts => ts.length ≤ kids.length ∧ gU p.classes inn env (kids.take ts.length) = some ts) (fun ts => kids.length - ts.length) [] ?start ⟨Nat.zero_le _, by simp [gU]⟩ ?round
 case start =>
  refine iM ?sle ?mle (aQ hkeep)
  case mle => repeat (first | exact aV _ | exact aF _ | refine aT ?_ (by first | rfl | (simp only [ak, aB, Nat.reduceEqDiff, reduceIte, BP]; done)))
  case sle => repeat (first | exact aM _ | exact aH _ | refine aL ?_ (by first | rfl | (simp only [ak, aD, aC, Nat.reduceEqDiff, reduceIte, BP]; done)))
 case round =>
  rintro ts ⟨hk, hall⟩;refine W.go ?_;refine W.cond rfl ?_ ?_
  ·intro hlt;replace hlt := dtl hlt;obtain ⟨x, hx⟩ : ∃ x, kids[ts.length]? = some x := ⟨_, List.getElem?_eq_getElem hlt⟩;have hxm := List.mem_of_getElem? hx;have hxs := List.sizeOf_lt_of_mem hxm;have hT := ih (SizeOf.sizeOf x) (by omega) x (Nat.le_refl _) (kk.mem hxm);have htk : kids.take (ts.length + 1) = kids.take ts.length ++ [x] := by rw [List.take_add_one, hx]; rfl
   have happ := o9 p.classes inn env (kids.take ts.length) x hall;have hrl := Gf (ts := ts) (n := kids.length) (by omega);have hlt' : ts.length < (uz ts kids.length).length := by omega
   rw [← htk] at happ;have hat := bA (f := cExpr) hx;obtain ⟨xk, xn, xm, xks⟩ := x;simp only [cExpr, aX] at hT hat;cases ht : pX p.classes inn env ⟨xk, xn, xm, xks⟩ with
   | some t =>
     rw [ht] at happ;refine Mg ?_;refine zm5 ?_;have hT1 : ∀ m, COk Tryz.prog 70 [.rptr (ckC p.classes p.main inn ret env), .agg [.int .i64 xk, .int .i64 xn, .str xm, .sl (xks.map cExpr)]] m (.c (.str t)) := fun m => by have := hT m; rw [ht] at this; exact this
     refine xs0 4 ?_;refine fJ rfl rfl rfl rfl rfl (by simp) (bM fO (bM fO gJ)) (by rfl) (by rfl) hT1 ?_;refine aA (by simp only [exb, simprocAttr, hlt', Jz hlt, wM hlt]; rfl) ?_;refine W.go ?_;refine YP ?_;refine iM ?sle ?mle (aQ hkeep)
     case mle => repeat (first | exact aV _ | exact aF _ | refine aT ?_ (by first | rfl | (simp only [ak, aB, Nat.reduceEqDiff, reduceIte, wM hlt, List.length_append, List.length_singleton, aP (show ts.length + 1 < 9223372036854775808 by omega)]; done)))
     case sle => repeat (first | exact aM _ | exact aH _ | refine aL ?_ (by first | rfl | (simp only [ak, aD, aC, Nat.reduceEqDiff, reduceIte, wM hlt, List.length_append, List.length_singleton, aP (show ts.length + 1 < 9223372036854775808 by omega)]; done)))
   | none =>
     rw [ht] at happ;have hno : pX p.classes inn env ⟨k, nn, nm, kids⟩ = none := by
      have := uS p.classes inn env (kids.take (ts.length + 1)) (kids.drop (ts.length + 1)) happ;rw [List.take_append_drop] at this;simp only [pX, this, Option.bind_none]
     rw [hno];refine Mg ?_;refine W.yh (base := 0) (ch := fU) ah 4 [29, 30, 1000000] bC (by kernel_rfl) (by decide) rfl ?_;refine xe0 ?_;intro st' hs hm;refine ⟨_, Bt rfl rfl rfl rfl yC (bM (.inl (.inl (hs 29 (by decide)).symm)) (bM (.inl (.inl (hs 30 (by decide)).symm)) gJ)) (fun m => by have := hT m; rw [ht] at this; exact this), ?_, rfl⟩;exact Om
  ·intro hge;replace hge := dnl hge;have htl : ts.length = kids.length := by omega
   rw [htl, List.take_length] at hall;have hty : pX p.classes inn env ⟨k, nn, nm, kids⟩ = eD p.classes inn env k nm ts := by simp only [pX, hall, Option.bind_some]
   rw [hty, Dj htl];refine W.go ?_;have htl9 : ts.length ≤ 1000000000 := by omega
   have hlen9 : p.classes.length ≤ 1000000000 := by omega
   refine W.cond rfl ?_ ?_
   ·skip;intro h;simp only [decide_eq_true_eq] at h;subst h;rw [show eD _ _ _ _ _ _ = _ from rfl];refine W.go ?_;refine aa8 ?_;simp only [Tryz.f70, aU, ay, toT, fin, exb, simprocAttr, Option.map_some]
   intro h2;simp only [decide_eq_false_iff_not] at h2;refine W.go ?_;refine W.cond rfl ?_ ?_
   ·skip;intro h;simp only [decide_eq_true_eq] at h;subst h;cases hi : isT inn tNo with
    | true =>
      rw [show eD _ _ _ _ _ _ = none from by simp [eD, hi]];unfold isT at hi;have hi2 := hi;rw [eG] at hi2;refine zm4 ?_;refine W.tK (base := 0) (ch := fU) ah 5 (by decide) rfl ?_;refine aA Wv ?_;exact Tv
    | false =>
      rw [show eD _ _ _ _ _ _ = some inn from by simp [eD, hi]];unfold isT at hi;have hi2 := hi;rw [eG] at hi2;refine zm4 ?_;refine zm1 ?_;refine aj 5 Wv ?_;refine zm7 ?_
      repeat (first | refine W.q ?_ | refine W.g ?_ Ct)
      refine aa8 ?_;simp only [Tryz.f70, aU, ay, toT, fin, exb, simprocAttr, Option.map_some]
   intro h3;simp only [decide_eq_false_iff_not] at h3;refine W.go ?_;refine W.cond rfl ?_ ?_
   ·skip;intro h;simp only [decide_eq_true_eq] at h;subst h;have hpk := CB env nm henv;cases hp : kE env nm with
    | none =>
      have hpx : ∀ m, XOk Tryz.prog 118 [.c (.sl (env.map aJ)), .c (.str nm)] m fU := fun m => by have := hpk m; rw [hp] at this; exact this
      rw [show eD _ _ _ _ _ _ = none from by simp [eD, hp]];refine zm4 ?_;refine W.yh (base := 0) (ch := fU) ah 6 [56, 58, 1000000] bC (by kernel_rfl) (by decide) rfl ?_;refine aA Ct ?_;intro st' hs hm;refine ⟨_, jM rfl rfl rfl rfl yC (bg (.inl (hs 56 (by decide)).symm) (bg (.inl (hs 58 (by decide)).symm) jL)) (hpx _), ?_, rfl⟩;exact Om
    | some t =>
      have hpt : ∀ m, COk Tryz.prog 118 [.c (.sl (env.map aJ)), .c (.str nm)] m (.c (.str t)) := fun m => by have := hpk m; rw [hp] at this; exact this
      cases hi : isT t tNo with
      | true =>
        rw [show eD _ _ _ _ _ _ = none from by simp [eD, hp, hi]];unfold isT at hi;have hi2 := hi;rw [eG] at hi2;refine zm4 ?_;refine zm5 ?_;refine Z5 ?_;refine zm4 ?_;refine Z0 ?_;refine aA TG ?_;exact Tv
      | false =>
        rw [show eD _ _ _ _ _ _ = some t from by simp [eD, hp, hi]];unfold isT at hi;have hi2 := hi;rw [eG] at hi2;refine zm4 ?_;refine zm5 ?_;refine Z5 ?_;refine zm4 ?_;refine zm1 ?_;refine aj 2 TG ?_;refine zm7 ?_;refine W.go ?_;refine aa8 ?_;simp only [Tryz.f70, aU, ay, toT, fin, exb, simprocAttr, Option.map_some]
   intro h4;simp only [decide_eq_false_iff_not] at h4;refine W.go ?_;refine W.cond rfl ?_ ?_
   ·skip;intro h;simp only [decide_eq_true_eq] at h;subst h;have hcl := uV p.classes [.sl (aO p.main), .str inn, .str ret, .sl (env.map aJ)] nm hlen9;cases hc : p.classes.any (lF nm) with
    | false =>
      rw [hc] at hcl;rw [show eD _ _ _ _ _ _ = none from by simp [eD, hc]];refine zm4 ?_;refine Rn ?_;refine xs0 3 ?_;refine O7 ?_;exact TN
    | true =>
      rw [hc] at hcl;rw [show eD _ _ _ _ _ _ = some nm from by simp [eD, hc]];refine zm4 ?_;refine zm1 ?_;refine xs0 3 ?_;refine O7 ?_;refine xs0 0 ?_;refine zm7 ?_;refine W.go ?_;refine aa8 ?_;simp only [Tryz.f70, aU, ay, toT, fin, exb, simprocAttr, Option.map_some]
   intro h5;simp only [decide_eq_false_iff_not] at h5;refine W.go ?_;refine W.cond rfl ?_ ?_
   ·exact YD
   intro h6;simp only [decide_eq_false_iff_not] at h6;refine W.go ?_;refine W.cond rfl ?_ ?_
   ·skip;intro h;simp only [decide_eq_true_eq] at h;subst h;have k1 := k7 rfl;obtain ⟨t0, rfl⟩ : ∃ t0, ts = [t0] := List.length_eq_one_iff.1 (by omega);have hf := E.I7 p 0 t0 hS hlen9 (fun _ => hlen) hchk;have hpk := CB (iK 0 p.classes t0) nm (GV hS hlen t0);cases hp : kE (iK 0 p.classes t0) nm with
    | none =>
      have hpx : ∀ m, XOk Tryz.prog 118 [.c (.sl ((iK 0 p.classes t0).map aJ)), .c (.str nm)] m fU := fun m => by have := hpk m; rw [hp] at this; exact this
      rw [show eD _ _ _ _ _ _ = none from by simp [eD, hp, hdT]];refine zm4 ?_;refine W.yh (base := 0) (ch := fU) ah 10 [87, 89, 1000000] bC (by kernel_rfl) (by decide) rfl ?_;refine acy ?_;refine xe0 ?_;intro st' hs hm;refine ⟨_, jM rfl rfl rfl rfl yC (bg (.inl (hs 87 (by decide)).symm) (bg (.inl (hs 89 (by decide)).symm) jL)) (hpx _), ?_, rfl⟩;exact Om
    | some t =>
      have hpt : ∀ m, COk Tryz.prog 118 [.c (.sl ((iK 0 p.classes t0).map aJ)), .c (.str nm)] m (.c (.str t)) := fun m => by have := hpk m; rw [hp] at this; exact this
      rw [show eD _ _ _ _ _ _ = some t from by simp [eD, hp, hdT]];refine zm4 ?_;refine zm5 ?_;refine acy ?_;refine xs0 2 ?_;refine av rfl rfl rfl rfl rfl (by simp) cw2 (hpt _) ?_;refine mU ?_;refine aa8 ?_;simp only [Tryz.f70, aU, ay, toT, fin, exb, simprocAttr, Option.map_some]
   intro h7;simp only [decide_eq_false_iff_not] at h7;refine W.go ?_;refine W.cond rfl ?_ ?_
   ·skip;intro h;simp only [decide_eq_true_eq] at h;subst h;cases hw : mI ts [gZ, bO] with
    | true =>
      have hwt : ∀ m, COk Tryz.prog 116 [.c (.sl (([gZ, bO]).map cStr)), .rptr [.sl (ts.map cStr)]] m (.tup []) := fun m => by have := iW [gZ, bO] ts htl9 m; rw [hw] at this; exact this
      exact ZB
    | false =>
      have hwt : ∀ m, XOk Tryz.prog 116 [.c (.sl (([gZ, bO]).map cStr)), .rptr [.sl (ts.map cStr)]] m fU := fun m => by have := iW [gZ, bO] ts htl9 m; rw [hw] at this; exact this
      exact abm
   intro h8;simp only [decide_eq_false_iff_not] at h8;refine W.go ?_;refine W.cond rfl ?_ ?_
   ·skip;intro h;simp only [decide_eq_true_eq] at h;subst h;cases hw : mI ts [gZ] with
    | true =>
      have hwt : ∀ m, COk Tryz.prog 116 [.c (.sl (([gZ]).map cStr)), .rptr [.sl (ts.map cStr)]] m (.tup []) := fun m => by have := iW [gZ] ts htl9 m; rw [hw] at this; exact this
      exact ZB
    | false =>
      have hwt : ∀ m, XOk Tryz.prog 116 [.c (.sl (([gZ]).map cStr)), .rptr [.sl (ts.map cStr)]] m fU := fun m => by have := iW [gZ] ts htl9 m; rw [hw] at this; exact this
      exact abm
   intro h9;simp only [decide_eq_false_iff_not] at h9;refine W.go ?_;refine W.cond rfl ?_ ?_
   ·skip;intro h;simp only [decide_eq_true_eq] at h;subst h;have k1 := k10 rfl;obtain ⟨t0, tr, rfl⟩ : ∃ t0 tr, ts = t0 :: tr := by
     have h2 : 1 ≤ ts.length := by omega
     match ts, h2 with
     | t0 :: tr, _ => exact ⟨t0, tr, rfl⟩
    have hmm := H8 p 0 t0 nm hS hB hlen9 hchk;cases hmt : jd 0 p.classes t0 nm with
    | none =>
      rw [hmt] at hmm;rw [show eD _ _ _ _ _ _ = none from by simp [eD, hmt, hdT]];refine zm4 ?_;refine zm5 ?_;refine aav ?_;refine zm4 ?_;refine W.yh (base := 0) (ch := fU) ah 9 [125, 1000000] bC (by kernel_rfl) (by decide) rfl ?_;exact aay
    | some res =>
      obtain ⟨⟨mt, mn, mps, mb⟩, cn⟩ := res;rw [hmt] at hmm;refine zm4 ?_;refine zm5 ?_;refine aav ?_;refine zm4 ?_;have htr : tr.length ≤ 1000000000 := by simp only [List.length_cons] at htl9; omega
      have hc1 : (tr.length ≤ tr.length ∧ (False ∨ ∀ (x : List C), x ∈ cStr t0 :: List.map cStr tr → x.length = 1)) = True := eq_true ⟨Nat.le_refl _, .inr fun x hx => by
       rcases List.mem_cons.1 hx with rfl | hx
       ·rfl
       ·obtain ⟨y, -, rfl⟩ := List.mem_map.1 hx; rfl⟩
      have hc2 : (tr.map cStr).take tr.length = tr.map cStr := List.take_of_length_le (by simp);refine W.LW 5 0 18 rfl rfl rfl (by decide) (cu hkeep) ?_;refine W.weaken (st' := ⟨upd (upd (upd (upd (fun _ => .top) 2 (.ptr 2 0)) 5 (.ptr 5 0)) 10 (.ptr 10 0)) 12 (.c (.bool true)), upd (upd (upd Mem.nil 2 (some (.box 62 [.rptr (ckC p.classes p.main inn ret env)]))) 5 (some (.box 30 [.c (.sl ((t0 :: tr).map cStr))]))) 10 (some (.box 44 [.c (.str mt), .c (.str mn), .c (.sl (mps.map aJ)), .c (.sl (aO mb))]))⟩) ?le ?_
      case le =>
       exact Ae
      cases he : AA p.classes tr mps with
      | false =>
        rw [show eD _ _ _ _ _ _ = none from by simp [eD, hmt, hdT, he]];refine W.yh (base := 0) (ch := fU) X.ah 9 [125, 1000000] bC (by kernel_rfl) (by decide) rfl ?_;refine abg ?_;simp only [dw, eY, bS];rw [he];exact aay
      | true =>
        rw [show eD _ _ _ _ _ _ = some mt from by simp [eD, hmt, hdT, he]];refine W.oK X.ah 0 bC (by kernel_rfl) (by decide) ?_;refine abg ?_;simp only [dw, eY, bS];rw [he];refine xs0 1 ?_;exact Yi
   intro h10;simp only [decide_eq_false_iff_not] at h10;refine W.go ?_;refine W.cond rfl ?_ ?_
   ·exact YD
   intro h12;simp only [decide_eq_false_iff_not] at h12;refine W.go ?_;refine W.cond rfl ?_ ?_
   ·exact zt9
   intro h13;simp only [decide_eq_false_iff_not] at h13;refine W.go ?_;refine W.cond rfl ?_ ?_
   ·exact zt9
   intro h14;simp only [decide_eq_false_iff_not] at h14;refine W.go ?_;refine W.cond rfl ?_ ?_
   ·exact zt9
   intro h15;simp only [decide_eq_false_iff_not] at h15;refine W.go ?_;refine W.cond rfl ?_ ?_
   ·exact zt9
   intro h16;simp only [decide_eq_false_iff_not] at h16;refine W.go ?_;refine W.cond rfl ?_ ?_
   ·skip;intro h;simp only [decide_eq_true_eq] at h;subst h;cases hw : mI ts [bO, bO] with
    | true =>
      have hwt : ∀ m, COk Tryz.prog 116 [.c (.sl (([bO, bO]).map cStr)), .rptr [.sl (ts.map cStr)]] m (.tup []) := fun m => by have := iW [bO, bO] ts htl9 m; rw [hw] at this; exact this
      exact ZB
    | false =>
      have hwt : ∀ m, XOk Tryz.prog 116 [.c (.sl (([bO, bO]).map cStr)), .rptr [.sl (ts.map cStr)]] m fU := fun m => by have := iW [bO, bO] ts htl9 m; rw [hw] at this; exact this
      exact abm
   intro h17;simp only [decide_eq_false_iff_not] at h17;refine W.go ?_;refine W.cond rfl ?_ ?_
   ·skip;intro h;simp only [decide_eq_true_eq] at h;subst h;have k2 := k18 rfl;obtain ⟨a, b, rfl⟩ : ∃ a b, ts = [a, b] := by
     exact Ue
    have hfa := fun m => zB p 0 [.str inn, .str ret, .sl (env.map aJ)] a b hlen9 hchk m
    have hfb := fun m => zB p 0 [.str inn, .str ret, .sl (env.map aJ)] b a hlen9 hchk m
    refine zm4 ?_;refine zm5 ?_;refine xe0 ?_;refine zm4 ?_;cases ai : isT a bO with
    | true =>
      cases bi : isT b bO with
      | true =>
        rw [show eD _ _ _ _ _ _ = some bO from by simp [eD, vG, hdT, ai, bi]];unfold isT at ai bi;refine zm1 ?_;refine aj 34 Us ?_;exact Yi
      | false =>
        exact aaZ
    | false =>
      cases bi : isT b bO with
      | true =>
        exact aaZ
      | false =>
        cases an : isT a iG with
        | true =>
          cases bn : isT b iG with
          | true =>
            rw [show eD _ _ _ _ _ _ = some bO from by simp [eD, vG, hdT, ai, bi, an, bn]];unfold isT at ai bi an bn;refine zm1 ?_;refine aj 34 BQ ?_;exact Yi
          | false =>
            exact zt5
        | false =>
          cases bn : isT b iG with
          | true =>
            exact zt5
          | false =>
            exact zt5
   intro h18;simp only [decide_eq_false_iff_not] at h18;rw [show eD _ _ _ _ _ _ = some bO from by simp [eD, h2, h3, h4, h5, h6, h7, h8, h9, h10, h12, h13, h14, h15, h16, h17, h18]];exact Ww
end
def lD (L : List ByteArray) (n : ByteArray) : Bool := L.any fun y => y.toList == n.toList
def fP (L : List ByteArray) : List ByteArray → Option (List ByteArray × ByteArray)
 | [] => none
 | x :: r => if lD L x = true then some (L, x) else fP (L ++ [x]) r
theorem yP : ∀ (L l : List ByteArray), uN L l = (fP L l).isNone
 | L, [] => rfl
 | L, x :: r => by
   unfold uN fP;have ih := yP (L ++ [x]) r;cases h : lD L x with
   | true => unfold lD at h; simp [h]
   | false => unfold lD at h; simp [h, ih]
theorem iO : ∀ (L a b : List ByteArray), fP L a = none → fP L (a ++ b) = fP (L ++ a) b
 | L, [], b, _ => by simp
 | L, x :: a, b, h => by
   simp only [fP] at h;rw [List.cons_append, fP];cases hs : lD L x with
   | true => rw [hs] at h; simp at h
   | false =>
     rw [hs] at h;simp only [Bool.false_eq_true, if_false] at h ⊢;rw [iO (L ++ [x]) a b h];simp
theorem uE : ∀ (L a b : List ByteArray) {r : List ByteArray × ByteArray}, fP L a = some r → fP L (a ++ b) = some r
 | L, [], b, r, h => by simp [fP] at h
 | L, x :: a, b, r, h => by
   simp only [fP] at h;rw [List.cons_append, fP];cases hs : lD L x with
   | true => rw [hs] at h; simpa using h
   | false =>
     rw [hs] at h;simp only [Bool.false_eq_true, if_false] at h ⊢;exact uE (L ++ [x]) a b h
theorem om : ∀ a b : List Stmt, bE (a ++ b) = bE a ++ bE b
 | [], b => by simp [bE]
 | x :: a, b => by simp [bE, om a b]
def gy (L : List ByteArray) : List (A1 × A1) := L.map fun n => (.c (.str n), .c (.int .i64 1))
theorem mE (L : List ByteArray) (n : ByteArray) : gy (L ++ [n]) = gy L ++ [(.c (.str n), .c (.int .i64 1))] := by simp [gy]
theorem gD (L : List ByteArray) : (gy L).flatMap (fun p => p.1.ids ++ p.2.ids) = [] := by
 induction L with
 | nil => rfl
 | cons z l ih => rw [gy, List.map_cons, List.flatMap_cons]; exact ih
theorem Eu (a b : List UInt8) : (a == b) = (b == a) := by
 cases h : a == b with
 | true => rw [beq_iff_eq] at h; subst h; simp
 | false => cases h2 : b == a with
   | true => rw [beq_iff_eq] at h2; subst h2; simp at h
   | false => rfl
theorem uD {n : ByteArray} : ∀ {L : List ByteArray}, lD L n = false → gu (.c (.str n)) (gy L) = some none
 | [], _ => rfl
 | y :: l, h => by
   unfold lD at h;rw [List.any_cons, Bool.or_eq_false_iff] at h;have ih := uD (n := n) (L := l) h.2;unfold gy at ih ⊢;simp only [List.map_cons, gu, vN, Eu n.toList, h.1, ih]
theorem uU {n : ByteArray} : ∀ {L : List ByteArray}, lD L n = true → ∃ q, gu (.c (.str n)) (gy L) = some (some (q, .c (.int .i64 1)))
 | [], h => by simp [lD] at h
 | y :: l, h => by
   cases e : y.toList == n.toList with
   | true =>
     refine ⟨0, ?_⟩;unfold gy;simp only [List.map_cons, gu, vN, Eu n.toList, e]
   | false =>
     unfold lD at h;rw [List.any_cons, e, Bool.false_or] at h;obtain ⟨q, ih⟩ := uU (n := n) (L := l) h;refine ⟨q + 1, ?_⟩;unfold gy at ih ⊢;simp only [List.map_cons, gu, vN, Eu n.toList, e, ih]
theorem Dz {n : ByteArray} {y v : A1} : ∀ {l : List (A1 × A1)} {q : Nat}, gu (.c (.str n)) l = some (some (q, v)) → gu (.c (.str n)) (l.set q (.c (.str n), y)) = some (some (q, y))
 | [], q, h => by simp [gu] at h
 | p :: l, q, h => by
   simp only [gu] at h;cases hk : vN (.c (.str n)) p.1 with
   | none => rw [hk] at h; cases h
   | some b =>
     rw [hk] at h;cases b with
     | true =>
       simp only [Option.some.injEq, Prod.mk.injEq] at h;obtain ⟨rfl, -⟩ := h;simp [gu, vN]
     | false =>
       simp only at h;cases hf : gu (.c (.str n)) l with
       | none => rw [hf] at h; cases h
       | some o =>
         rw [hf] at h;match o, h with
         | some (i, u), h =>
           simp only [Option.some.injEq, Prod.mk.injEq] at h;obtain ⟨rfl, rfl⟩ := h;rw [List.set_cons_succ];simp only [gu, hk, Dz hf]
def BG (L : List ByteArray) (n : ByteArray) : List (A1 × A1) := match gu (.c (.str n)) (gy L) with | some r => vK (.c (.str n)) (.c (.int .i64 2)) (gy L) r | none => []
def qw (M : Mem) (j : Nat) (L ds : List ByteArray) : Option (A × Mem) := match fP L ds with | none => some (.tup [], upd M j (some (.map (gy (L ++ ds))))) | some _ => none
def ou (M : Mem) (j : Nat) (L ds : List ByteArray) : Mem := match fP L ds with | some (L', n) => upd M j (some (.map (BG L' n))) | none => M
theorem Mw {l : List (A1 × A1)} {q : Nat} {x : A1 × A1} (h : l.flatMap (fun p => p.1.ids ++ p.2.ids) = []) (hx : x.1.ids ++ x.2.ids = []) : (l.set q x).flatMap (fun p => p.1.ids ++ p.2.ids) = [] := by
 rw [List.flatMap_eq_nil_iff] at h ⊢;intro y hy;rcases List.mem_or_eq_of_mem_set hy with h1 | rfl
 ·exact h y h1
 ·exact hx
theorem HZ (L : List ByteArray) (n : ByteArray) : (BG L n).flatMap (fun p => p.1.ids ++ p.2.ids) = [] := by
 unfold BG;cases gu (.c (.str n)) (gy L) with
 | none => rfl
 | some r =>
   match r with
   | none => show (gy L ++ _).flatMap _ = []; rw [List.flatMap_append, gD]; rfl
   | some (i, v) => exact Mw (gD L) rfl
theorem Hw {M : Mem} {j : Nat} {L ds : List ByteArray} : ∀ i, (M i).isSome = true → (ou M j L ds i).isSome = true := fun i hi => by
 unfold ou;cases fP L ds with
 | some r => exact cO i hi
 | none => exact hi
theorem MP {M : Mem} {j : Nat} {L ds : List ByteArray} (hw : WFm M) : WFm (ou M j L ds) := by
 unfold ou;split
 ·exact dH hw (fun i hi => by simp only [O.ids] at hi; rw [HZ] at hi; cases hi)
 ·exact hw
theorem PS {M : Mem} {i j : Nat} {x y z : Option O} (hij : i ≠ j) (hi : M i = none) : MLe (upd (upd (upd M j x) i y) j z) (upd M j z) := fun u => by
 by_cases e1 : u = j
 ·subst e1; exact .inr (by rw [upd_same, upd_same])
 ·by_cases e2 : u = i
  ·subst e2; exact .inl (by rw [upd_ne _ _ e1]; exact hi)
  ·exact .inr (by simp [upd, e1, e2])
theorem Qn {M : Mem} {i j : Nat} {x y z : Option O} (hij : i ≠ j) : upd (upd (upd M j x) i y) j z = upd (upd M j z) i y := by
 funext u
 by_cases e1 : u = j
 ·exact Nq
 ·by_cases e2 : u = i
  ·subst e2; rw [upd_ne _ _ e1, upd_same, upd_same]
  ·simp [upd, e1, e2]
def vD : Tab := { tab with eff := fun f => f == 36 }
theorem OO.ah : vD.Ok Tryz.prog := ⟨V.ah.ty, V.ah.zero, V.ah.elem, V.ah.off, V.ah.bool, V.ah.fields, V.ah.bytes, V.ah.nilk, V.ah.int, V.ah.map, V.ah.str, V.ah.one, V.ah.seq⟩
theorem OO.tabs : vD.ty = tab.ty ∧ vD.zero = tab.zero ∧ vD.elem = tab.elem ∧ vD.off = tab.off ∧ vD.bool = tab.bool ∧ vD.fields = tab.fields ∧ vD.bytes = tab.bytes ∧ vD.nilk = tab.nilk ∧ vD.int = tab.int ∧ vD.map = tab.map ∧ vD.str = tab.str ∧ vD.one = tab.one ∧ vD.seq = tab.seq := ⟨rfl, rfl, rfl, rfl, rfl, rfl, rfl, rfl, rfl, rfl, rfl, rfl, rfl⟩
theorem Xp {M : Mem} {i j : Nat} {x y z : Option O} (hij : i ≠ j) : MLe (upd (upd (upd M j x) i y) j z) (upd (upd M j z) i y) := dY (by
 funext u
 by_cases e1 : u = j
 ·exact Nq
 ·by_cases e2 : u = i
  ·subst e2; rw [upd_ne _ _ e1, upd_same, upd_same]
  ·simp [upd, e1, e2])
theorem W.join {P : Go.Program} {R : Ref} {n : Nat} {ds : List Deferred} {st X : St} {c c2 : Code} {K : Exit → St → Prop} {Y : Prop} (h : W P R n ds st c (yG (fun st' => Y ∧ Le R.keep st' X) K)) (h2 : Y → W P R n ds X c2 K) : W P R n ds st c (yG (fun st' => W P R n ds st' c2 K) K) :=
 W.mono h fun e st' h => by
  cases e <;> first | exact W.weaken h.2 (h2 h.1) | exact h
theorem L9 : ∀ (n : Nat) (l : List Stmt), SizeOf.sizeOf l ≤ n → l.length ≤ 1048576 → eX 1048576 l → ∀ (M : Mem) (b j : Nat) (L : List ByteArray), (∀ d, M (b + d) = none) → M j = some (.map (gy L)) →
 YO Tryz.prog 36 [.map j, .c (.sl (l.map aW))] M [] fU (ou M j L (bE l)) (qw M j L (bE l)) := by
 intro n
 induction n using Nat.strongRecOn with
 | ind n ih =>
 intro l hn hl hS M b j L hfar hj
 have hjb : ∀ d, (j = b + d) = False := jK hfar hj
 have hbj : ∀ d, (b + d = j) = False := nG hfar hj
 obtain ⟨r, hr⟩ : ∃ r, qw M j L (bE l) = r := ⟨_, rfl⟩
 obtain ⟨Mx, hX⟩ : ∃ Mx, ou M j L (bE l) = Mx := ⟨_, rfl⟩
 rw [hr, hX]
 refine NG ah [] r Tryz.func36 (by kernel_rfl) rfl rfl (by rfl) (by rfl) ?ids ?res (fun i hi _ => by rw [← hX]; exact Hw i hi) (fun hw => by rw [← hX]; exact MP hw) (fun hWF Rr hkeep => ?_)
 case ids => intro a ha i hi; simp at ha; rcases ha with rfl | rfl <;> simp [A.ids] at hi; subst hi; simp [hj]
 case res =>
  intro x M' hx;rw [← hr] at hx;unfold qw at hx;cases hd : fP L (bE l) with
  | some r => rw [hd] at hx; cases hx
  | none =>
    rw [hd] at hx;cases hx
    exact ⟨fun i hi => by simp [A.ids] at hi, fun i hi => cO i hi, fun hw => dH hw (fun i hi => by simp only [O.ids] at hi; rw [gD] at hi; cases hi)⟩
 have kept : ∀ i, Rr.keep i → (M i).isSome = true := fun i hi => by rw [hkeep] at hi; exact hi.1
 have hw11 : IntKind.i64.wrap (1 + 1) = 2 := rfl
 have hwb : IntKind.i64.wrap 2 = 2 := rfl
 have hwa : IntKind.i64.wrap 1 = 1 := rfl
 have hw01 : IntKind.i64.wrap (0 + 1) = 1 := rfl
 repeat (first | refine W.q ?_ | refine W.region ah b (by decide) xr0 ?_)
 refine W.loop (ι := Nat) (fun k => ⟨upd (upd (upd (upd (fun _ => .top) 0 (.map j)) 6 (.c (.sl (l.map aW)))) 7 (.c (.int .i64 l.length))) 8 (.c (.int .i64 k)), upd M j (some (.map (gy (L ++ bE (l.take k)))))⟩) (fun k => k ≤ l.length ∧ fP L (bE (l.take k)) = none) (fun k => l.length - k) 0 ?start ⟨Nat.zero_le _, rfl⟩ ?round
 case start =>
  refine dU ?sle ?mle ?swf ?mwf (fun i hi => cO i (kept i hi)) (by rfl)
  case swf => repeat (first | exact bP _ | refine bQ ?_ (by simp [A.ids, ak, hj]))
  case mwf => exact dH hWF (fun i hi => by simp only [O.ids] at hi; rw [gD] at hi; cases hi)
  case mle => exact dY (IY M (by rw [hj]; simp [bE])).symm
  case sle => repeat (first | exact aM _ | exact aH _ | refine aL ?_ Qy)
 case round =>
  rintro k ⟨hkl, hno⟩;refine zm3 ?_;refine W.cond rfl ?_ ?_
  ·intro hlt;replace hlt := dtl hlt;obtain ⟨x, hx⟩ : ∃ x, l[k]? = some x := ⟨_, List.getElem?_eq_getElem hlt⟩;have hxm := List.mem_of_getElem? hx;have hxs := List.sizeOf_lt_of_mem hxm;have hSx := hS.mem hxm;have hat := bA (f := aW) hx;have htk : bE (l.take (k + 1)) = bE (l.take k) ++ Dh x := by rw [List.take_add_one, hx, om]; simp [bE]
   have hsp : bE l = bE (l.take k) ++ (Dh x ++ bE (l.drop (k + 1))) := by rw [← List.append_assoc, ← htk, ← om, List.take_append_drop]
   obtain ⟨sk, sn, ty, nm, es, th, el⟩ := x;simp only [nW] at hSx;obtain ⟨-, -, q1, q2, q3, q4⟩ := hSx;have hspec := Stmt.mk.sizeOf_spec sk sn ty nm es th el;simp only [aW, bf] at hat;simp only [Dh] at htk hsp;generalize hL1 : L ++ bE (l.take k) = L1 at *;have hf5 : M (b + 5) = none := hfar 5;have hnow : fP L (bE l) = fP L1 ((if sk = 1 then [nm] else []) ++ bE th ++ bE el ++ bE (l.drop (k + 1))) := by rw [hsp, iO _ _ _ hno, hL1]
   have hl1 : ∀ u, L ++ (bE (l.take k) ++ u) = L1 ++ u := fun u => by rw [← List.append_assoc, hL1]
   refine W.bl ?_;refine zm8 ?_;refine aA (by simp only [exb, simprocAttr, hat, hf5, upd_same, hjb, hbj]; rfl) ?_;simp only [bS];refine W.seq ?_;refine W.join (X := ⟨upd (upd (upd (upd (upd (fun _ => .top) 0 (.map j)) 5 (.ptr (b + 5) 0)) 6 (.c (.sl (l.map aW)))) 7 (.c (.int .i64 l.length))) 8 (.c (.int .i64 k)), upd (upd M j (some (.map (gy (L1 ++ (if sk = 1 then [nm] else [])))))) (b + 5) (some (.box 37 [.c (.int .i64 sk), .c (.int .i64 sn), .c (.str ty), .c (.str nm), .c (.sl (pK es)), .c (.sl (th.map aW)), .c (.sl (el.map aW))]))⟩) (Y := fP L1 (if sk = 1 then [nm] else []) = none) ?own ?rest
   case own =>
    refine W.bl ?_;refine zm8 ?_;refine aA (by simp only [exb, simprocAttr, upd_same, hjb, hbj]; rfl) ?_;refine W.cond rfl ?_ ?_
    ·intro h;simp only [decide_eq_true_eq] at h;subst h;cases hs : lD L1 nm with
     | true =>
       obtain ⟨q, hfd⟩ := uU hs;have hf2 := Dz (y := .c (.int .i64 2)) hfd;have hd : fP L (bE l) = some (L1, nm) := by rw [hnow, if_pos rfl]; simp only [List.cons_append, fP, hs, if_true]
       have hr0 : qw M j L (bE l) = none := by unfold qw; rw [hd]
       have hX0 : ou M j L (bE l) = upd M j (some (.map ((gy L1).set q (.c (.str nm), .c (.int .i64 2))))) := by unfold ou; rw [hd]; simp only [BG, hfd]; rfl
       obtain rfl : r = none := hr.symm.trans hr0;obtain rfl : Mx = _ := hX.symm.trans hX0;refine W.bl ?_;refine zm8 ?_;refine Yk ?_;refine W.tK (base := b) (ch := fU) ah 5 (by decide) rfl ?_;refine aA abL ?_;exact ⟨_, jM rfl rfl rfl rfl (by simp) cw1 (nI _), by rfl, rfl, PS (fun e => cast (hbj 5) e) hf5⟩
     | false =>
       have hfd := uD hs;have hs2 : lD (L1 ++ [nm]) nm = true := by unfold lD; simp
       obtain ⟨q, hf2⟩ := uU hs2;rw [mE] at hf2;refine W.bl ?_;refine zm8 ?_;refine Yk ?_;refine zm8 ?_;refine aj 5 abL ?_;refine zm7 ?_;refine ⟨by rw [if_pos rfl]; simp only [fP, hs]; rfl, ?_⟩;rw [if_pos rfl, mE];exact YW
    ·intro h;simp only [decide_eq_false_iff_not] at h;refine W.bl ?_;refine ⟨by rw [if_neg h]; rfl, ?_⟩;rw [if_neg h, List.append_nil];exact YW
   case rest =>
    intro hdup;generalize (if sk = 1 then [nm] else []) = A0 at *;have hnow2 : fP L (bE l) = fP (L1 ++ A0) (bE th ++ (bE el ++ bE (l.drop (k + 1)))) := by rw [hnow, List.append_assoc, List.append_assoc, iO _ _ _ hdup]
    have hT := fun (M' : Mem) h1 h2 => ih (SizeOf.sizeOf th) (by omega) th (Nat.le_refl _) q1 q2 M' (b + 40) j (L1 ++ A0) h1 h2
    have far40 : ∀ (x : Option O) (o : Option O) d, (upd (upd M j x) (b + 5) o) (b + 40 + d) = none := fun x o d => by rw [upd_ne _ _ (by omega), upd_ne _ _ (fun e => cast (hbj (40 + d)) (by rw [← Nat.add_assoc]; exact e)), Nat.add_assoc]; exact hfar _
    have at40 : ∀ (x : Option O) (o : Option O), (upd (upd M j x) (b + 5) o) j = x := fun x o => by rw [upd_ne _ _ (fun e => cast (hjb 5) e), upd_same]
    cases hd : fP (L1 ++ A0) (bE th) with
    | some res =>
      obtain ⟨L', n'⟩ := res;have hd1 : fP L (bE l) = some (L', n') := by rw [hnow2]; exact uE _ _ _ hd
      have hXc : ∀ M' : Mem, (∀ d, M' (b + 40 + d) = none) → M' j = some (.map (gy _)) → Dk Tryz.prog 36 [.map j, .c (.sl ((th).map aW))] M' [] fU (upd M' j (some (.map (BG L' n')))) := fun M' h1 h2 => by
       exact U9
      exact Yg
    | none =>
      have hC : ∀ M' : Mem, (∀ d, M' (b + 40 + d) = none) → M' j = some (.map (gy (L1 ++ A0))) → dJ Tryz.prog 36 [.map j, .c (.sl (th.map aW))] M' [] (.tup []) (upd M' j (some (.map (gy (L1 ++ A0 ++ bE th))))) := fun M' h1 h2 => by
       exact U9
      refine YJ ?_;simp only [dw, eY, bS];refine xe0 ?_;rw [Qn (fun e => cast (hbj 5) e)];clear hT hC;have hnow3 : fP L (bE l) = fP (L1 ++ A0 ++ bE th) (bE el ++ bE (l.drop (k + 1))) := by rw [hnow2, iO _ _ _ hd]
      have hT := fun (M' : Mem) h1 h2 => ih (SizeOf.sizeOf el) (by omega) el (Nat.le_refl _) q3 q4 M' (b + 40) j (L1 ++ A0 ++ bE th) h1 h2
      have far40 : ∀ (x : Option O) (o : Option O) d, (upd (upd M j x) (b + 5) o) (b + 40 + d) = none := fun x o d => by rw [upd_ne _ _ (by omega), upd_ne _ _ (fun e => cast (hbj (40 + d)) (by rw [← Nat.add_assoc]; exact e)), Nat.add_assoc]; exact hfar _
      have at40 : ∀ (x : Option O) (o : Option O), (upd (upd M j x) (b + 5) o) j = x := fun x o => by rw [upd_ne _ _ (fun e => cast (hjb 5) e), upd_same]
      cases hd2 : fP (L1 ++ A0 ++ bE th) (bE el) with
      | some res =>
        obtain ⟨L', n'⟩ := res;have hd1 : fP L (bE l) = some (L', n') := by rw [hnow3]; exact uE _ _ _ hd2
        have hXc : ∀ M' : Mem, (∀ d, M' (b + 40 + d) = none) → M' j = some (.map (gy _)) → Dk Tryz.prog 36 [.map j, .c (.sl ((el).map aW))] M' [] fU (upd M' j (some (.map (BG L' n')))) := fun M' h1 h2 => by
         exact VW
        exact Yg
      | none =>
        have hC : ∀ M' : Mem, (∀ d, M' (b + 40 + d) = none) → M' j = some (.map (gy (L1 ++ A0 ++ bE th))) → dJ Tryz.prog 36 [.map j, .c (.sl (el.map aW))] M' [] (.tup []) (upd M' j (some (.map (gy (L1 ++ A0 ++ bE th ++ bE el))))) := fun M' h1 h2 => by
         exact VW
        refine YJ ?_;simp only [dw, eY, bS];refine xe0 ?_;rw [Qn (fun e => cast (hbj 5) e)];refine zm3 ?_;refine ⟨k + 1, ⟨hlt, ?_⟩, by omega, ?_⟩
        ·rw [htk, iO _ _ _ hno, hL1, List.append_assoc, iO _ _ _ hdup, iO _ _ _ hd];exact hd2
        have hfin : L ++ bE (l.take (k + 1)) = L1 ++ A0 ++ bE th ++ bE el := by rw [htk, hl1]; simp only [List.append_assoc]
        rw [hfin];refine dU ?sle ?mle ?swf ?mwf (fun i hi => by repeat (first | exact kept i hi | refine cO i ?_)) (by rfl)
        case swf => repeat (first | exact bP _ | refine bQ ?_ WS)
        case mwf => exact dH hWF (fun i hi => by simp only [O.ids] at hi; rw [gD] at hi; cases hi)
        case mle => exact gY (aF _) ((upd_ne (f := M) (t := j) (u := b + 5) _ (fun e => cast (hbj 5) e)).trans hf5)
        case sle => repeat (first | exact aM _ | exact aH _ | refine aL ?_ OD)
  ·intro hge;replace hge := dnl hge;obtain rfl : k = l.length := by omega
   rw [List.take_length] at hno ⊢;have hr0 : qw M j L (bE l) = some (.tup [], upd M j (some (.map (gy (L ++ bE l))))) := by unfold qw; rw [hno]
   obtain rfl : r = _ := hr.symm.trans hr0;refine zm3 ?_;exact ⟨by rfl, .inl rfl, by rfl, aF _⟩
end V
end Go.Proofs.YtgaipdillmleeaaGreat
end
section
namespace Go.Proofs.YtgaipdillmleeaaGreat
namespace V
mutual
def CO : Stmt → Prop
 | ⟨k, _, _, _, es, th, el⟩ => (k = 2 → es.length = 2) ∧ (k = 3 ∨ k = 4 ∨ k = 5 ∨ k = 6 → 1 ≤ es.length) ∧ es.length ≤ 1048576 ∧ nC es ∧ jF th ∧ jF el
def jF : List Stmt → Prop
 | [] => True
 | x :: l => CO x ∧ jF l
end
theorem jF.mem : ∀ {l : List Stmt} {x : Stmt}, jF l → x ∈ l → CO x
 | y :: l, x, h, hx => by
   simp only [jF] at h;rcases List.mem_cons.1 hx with rfl | hx
   ·exact h.1
   ·exact jF.mem h.2 hx
end V
end Go.Proofs.YtgaipdillmleeaaGreat
end
section
namespace Go.Proofs.YtgaipdillmleeaaGreat
namespace V
open Go.RowKit
set_option maxRecDepth 100000 in
theorem zZ (l : List Slot) (hl : l.length ≤ 1000000000) (M : Mem) (id : Nat) (hid : M id = none) : dJ Tryz.prog 35 [.c (.sl (l.map aJ))] M [] (.own id) (upd M id (some (.mrow 46 2 (l.map aJ)))) :=
 wU Tryz.yE Aa (by decide) (enters_of Tryz.func35 (by kernel_rfl) rfl) (l.map aJ) (fun x hx => by obtain ⟨y, -, rfl⟩ := List.mem_map.1 hx; rfl) JK M id hid
def KB (T : Tab) (l : List ResultVar) (ch : List PanicEntry) (Mx : Mem) : Option (A × Mem) → Exit → St → Prop
 | some (x, M'), e, st => (e = .normal ∨ e = .ret) ∧ dfs (st.s DID) = [] ∧ resE T st l = some x ∧ MLe st.m M'
 | none, e, st => e = .panic ch ∧ dfs (st.s DID) = [] ∧ MLe st.m Mx
def DB (Dy Dn : List Nat) : Option (A × Mem) → List Nat
 | some _ => Dy
 | none => Dn
def Va (P : Go.Program) (f : FuncId) (args : List A) (M : Mem) (Dy Dn : List Nat) (ch : List PanicEntry) (Mx : Mem) : Option (A × Mem) → Prop
 | some (r, M') => dJ P f args M Dy r M'
 | none => Dk P f args M Dn ch Mx
theorem MX {P : Go.Program} {T : Tab} (hT : T.Ok P) {f : FuncId} {fn : Func} {c : Code} {l : List ResultVar} {args : List A} {M : Mem} (Dy Dn : List Nat) {ch : List PanicEntry} {Mx : Mem} (r : Option (A × Mem)) (hf : P.funcs[f]? = some fn) (hn : (fn.name == "runtime.NumGoroutine") = false) (hb : fn.body = some c) (hl : fn.results.toList = l)
 (hle : decide (args.length ≤ fn.ntmps ∧ fn.ntmps ≤ DID) = true) (hdf : args.all (fun a => !(match a with | .defs _ => true | _ => false)) = true) (hids : ∀ a ∈ args, ∀ j ∈ a.ids, (M j).isSome = true)
 (hr : ∀ x M', r = some (x, M') → (∀ j ∈ x.ids, (M' j).isSome = true) ∧ (∀ j, (M j).isSome = true → (M' j).isSome = true) ∧ (WFm M → WFm M')) (hsx : ∀ j, (M j).isSome = true → j ∉ Dn → (Mx j).isSome = true) (hwx : WFm M → WFm Mx)
 (hW : WFm M → ∀ R : Ref, R.keep = (fun j => (M j).isSome = true ∧ j ∉ DB Dy Dn r) → W P R fn.ntmps [] ⟨entry args, M⟩ c (KB T l ch Mx r)) : Va P f args M Dy Dn ch Mx r := by
 match r, hr, hW with
 | some (x, M'), hr, hW =>
   obtain ⟨h1, h2, h3⟩ := hr x M' rfl;exact jN hT Dy hf hn hb hl hle hdf hids h1 h2 h3 (fun hWF R hR => W.mono (hW hWF R hR) fun e st ⟨q1, q2, q3, q4⟩ => ⟨q1, q2, q3, q4⟩)
 | none, hr, hW =>
   exact JY hT Dn hf hn hb hle hdf hids hsx hwx (fun hWF R hR => W.mono (hW hWF R hR) fun e st ⟨q1, q2, q3⟩ => ⟨q1, q2, q3⟩)
theorem W.Ee {P : Go.Program} {R : Ref} {n : Nat} {ds : List Deferred} {st : St} {c : Code} {K : Exit → St → Prop} (j k id : Nat) (hji : j ≠ id) (hkp : ¬ R.keep id)
 (h : W P R n ds st c fun e st' => ∃ tyb ty e0 lo hi cells xs, st'.m j = some (.box tyb cells) ∧ cells[k]? = some (.win id e0 lo hi) ∧ st'.m id = some (.mrow ty e0 xs) ∧ hi ≤ xs.length ∧ K e ⟨iy id st'.s, upd (upd (fq id st'.m) id (some (.mrow ty e0 ((xs.take hi).drop lo)))) j (some (.box tyb ((cells.map (A.kill id)).set k (.own id))))⟩) : W P R n ds st c K := fun a w hr =>
 wp_mono (h a w hr) fun e a' w' ⟨st', ⟨tyb, ty, e0, lo, hi, cells, xs, h1, h2, h3, h4, h5⟩, hr'⟩ => ⟨_, h5, hr'.BR j k id h1 h2 h3 h4 hji hkp⟩
mutual
def lG : Stmt → Nat
 | ⟨_, _, _, _, _, th, el⟩ => 1 + dF th + dF el
def dF : List Stmt → Nat
 | [] => 0
 | x :: l => lG x + dF l
end
theorem p9 : ∀ a b : List Stmt, dF (a ++ b) = dF a + dF b
 | [], b => by simp [dF]
 | x :: a, b => by simp [dF, p9 a b]; omega
theorem oJ : ∀ l : List Stmt, l.length ≤ dF l
 | [] => Nat.le_refl _
 | x :: l => by
   have := oJ l;rw [List.length_cons, dF];cases x
   rw [lG]; omega
def jl (env : List Slot) : List Stmt → List Slot
 | [] => env
 | x :: l => jl (if x.kind = 1 then env ++ [⟨x.type, x.name⟩] else env) l
theorem yc (env : List Slot) : ∀ (l : List Stmt) (x : Stmt), jl env (l ++ [x]) = (if x.kind = 1 then jl env l ++ [⟨x.type, x.name⟩] else jl env l) := by
 intro l;induction l generalizing env with
 | nil => intro x; rfl
 | cons y l ih => intro x; rw [List.cons_append, jl, ih]; rfl
theorem FW (env : List Slot) : ∀ l : List Stmt, (jl env l).length ≤ env.length + l.length := by
 intro l;induction l generalizing env with
 | nil => exact Nat.le_refl _
 | cons y l ih =>
   rw [jl];have := ih (if y.kind = 1 then env ++ [⟨y.type, y.name⟩] else env);rw [List.length_cons];split at this
   ·rename_i h; rw [if_pos h]; rw [List.length_append, List.length_singleton] at this; omega
   ·rename_i h; rw [if_neg h]; omega
theorem O5 (env : List Slot) : ∀ l : List Stmt, ∃ t, jl env l = env ++ t := by
 intro l;induction l generalizing env with
 | nil => exact ⟨[], by simp [jl]⟩
 | cons y l ih =>
   rw [jl];split
   ·obtain ⟨t, ht⟩ := ih (env ++ [⟨y.type, y.name⟩]);exact ⟨_, by rw [ht, List.append_assoc]⟩
   ·exact ih env
theorem vT (cs : List Class) (inn ret : ByteArray) (env : List Slot) : ∀ (a b : List Stmt), dR cs inn ret env (a ++ b) = (dR cs inn ret env a && dR cs inn ret (jl env a) b) := by
 intro a;induction a generalizing env with
 | nil => intro b; simp [dR, jl]
 | cons y a ih => intro b; rw [List.cons_append, dR, dR, jl, ih, Bool.and_assoc]
end V
end Go.Proofs.YtgaipdillmleeaaGreat
end
section
namespace Go.Proofs.YtgaipdillmleeaaGreat
namespace V
open Go.RowKit AS
mutual
def SmS : Stmt → Prop
 | ⟨_, _, _, _, es, th, el⟩ => es.length ≤ 1048576 ∧ uI es ∧ th.length ≤ 1048576 ∧ vV th ∧ el.length ≤ 1048576 ∧ vV el
def vV : List Stmt → Prop
 | [] => True
 | x :: l => SmS x ∧ vV l
end
theorem vV.mem : ∀ {l : List Stmt} {x : Stmt}, vV l → x ∈ l → SmS x
 | y :: l, x, h, hx => by
   simp only [vV] at h;rcases List.mem_cons.1 hx with rfl | hx
   ·exact h.1
   ·exact vV.mem h.2 hx
def DT (o : Option (List Nm)) (l : List Stmt) : Option (List Nm) × Bool := match o with
 | some L => fD L l
 | none => match l with | [] => (none, true) | _ :: _ => (none, false)
theorem sK (L : List Nm) (x : Stmt) (l : List Stmt) {o : Option (List Nm)} {ok : Bool} (h : jH L x = (o, ok)) : fD L (x :: l) = if ok = true then DT o l else (none, false) := by
 simp only [fD];rw [h];cases ok
 ·rfl
 ·cases o
  ·cases l <;> rfl
  ·rfl
def OZ (x : Stmt) : Prop := ∀ (L : List Nm) (j : Nat) (M : Mem) (b : Nat), (∀ d, M (b + d) = none) → M j = some (.names (some L)) → L.length + lG x ≤ 1000000000000 →
 (∀ L', (jH L x).1 = some L' → L'.length ≤ L.length + lG x) ∧ dJ Tryz.prog 26 [.map j, .agg (aW x)] M [j] (jq (jH L x).1 (jH L x).2 j) (jnM M j (jH L x).1)
def sO (o : Option (List Nm)) (j : Nat) : A := match o with | some _ => .map j | none => .nilv (.map none)
theorem Eo {M : Mem} {j v : Nat} {o1 o2 : Option (List Nm)} {x : Option O} (hv : M v = none) {u : Nat} {z : O} (hu : u ≠ j) (hz : M u = some z) : jnM (upd (jnM M j o1) v x) j o2 u = some (O.kill j z) := by
 have huv : u ≠ v := fun e => by subst e; rw [hv] at hz; cases hz
 unfold jnM;rw [upd_ne _ _ hu, aB, upd_ne _ _ huv, upd_ne _ _ hu, aB, hz];simp [Aw]
theorem oO {M : Mem} {j : Nat} {o1 : Option (List Nm)} {u : Nat} {z : O} (hu : u ≠ j) (hz : M u = some z) : jnM M j o1 u = some (O.kill j z) := by
 unfold jnM;rw [upd_ne _ _ hu, aB, hz]; rfl
theorem XD {M : Mem} {j v : Nat} {o1 o2 : Option (List Nm)} {x : Option O} (hv : M v = none) (hj : (M j).isSome = true) : MLe (jnM (upd (jnM M j o1) v x) j o2) (jnM M j o2) := fun u => by
 by_cases hu : u = j
 ·subst hu; right; rw [qK, qK]
 ·cases hm : M u with
  | none => left; exact zN hm hj
  | some z => right; rw [Eo hv hu hm, oO hu hm]
set_option maxHeartbeats 4000000 in
theorem IV (l : List Stmt) (hl : l.length ≤ 1048576) (hst : ∀ x ∈ l, OZ x) (L : List Nm) (j : Nat) (M : Mem) (b : Nat) (hM : ∀ d, M (b + d) = none) (hj : M j = some (.names (some L))) (hL : L.length + dF l ≤ 1000000000000) :
 dJ Tryz.prog 12 [.map j, .c (.sl (l.map aW))] M [j] (jq (fD L l).1 (fD L l).2 j) (jnM M j (fD L l).1) := by
 have hjb : ∀ d, (j = b + d) = False := jK hM hj
 have hjs : (M j).isSome = true := by rw [hj]; rfl
 refine JR ah j (fD L l).1 (fD L l).2 Tryz.func12 (by kernel_rfl) rfl rfl (by rfl) (by rfl) (fun a ha i hi => ?_) hjs (fun hWF Rr hkeep => ?_)
 ·simp at ha; rcases ha with rfl | rfl <;> simp [A.ids] at hi; subst hi; exact hjs
 have kept : ∀ o, ∀ i, Rr.keep i → (jnM M j o i).isSome = true := fun o i hi => by rw [hkeep] at hi; exact kH hi.1
 have nk : ¬ Rr.keep j := by rw [hkeep]; exact fun h => h.2 (by simp)
 have hJ : ∀ o d, jnM M j o (b + d) = none := fun o d => zN (hM d) hjs
 have hwJ : ∀ o, WFm (jnM M j o) := fun o => Ql hWF
 refine W.Qz j hj ?_
 repeat (first | refine W.q ?_ | refine W.region ah b (by decide) xr0 ?_)
 refine W.loop (ι := Nat × Option (List Nm)) (fun i => ⟨upd (upd (upd (upd (fun _ => .top) 0 (sO i.2 j)) 9 (.c (.sl (l.map aW)))) 10 (.c (.int .i64 l.length))) 11 (.c (.int .i64 i.1)), jnM M j i.2⟩)
  (fun i => i.1 ≤ l.length ∧ fD L l = DT i.2 (l.drop i.1) ∧ ∀ L', i.2 = some L' → L'.length + dF (l.drop i.1) ≤ 1000000000000) (fun i => l.length - i.1) (0, some L) ?start ⟨Nat.zero_le _, rfl, fun L' h => by cases h; exact hL⟩ ?round
 case start =>
  refine dU ?sle ?mle ?swf ?mwf (kept _) (by rfl)
  case swf => repeat (first | exact bP _ | refine bQ ?_ Tm)
  case mwf => exact hwJ _
  case sle => repeat (first | exact aM _ | exact aH _ | refine aL ?_ Qy)
  case mle => exact dY rfl
 case round =>
  rintro ⟨k, o⟩ ⟨hk, hrun, hlen⟩;dsimp only at hk hrun hlen ⊢;refine zm3 ?_;refine W.cond rfl ?_ ?_
  ·intro hlt;replace hlt := dtl hlt;obtain ⟨x, hx⟩ : ∃ x, l[k]? = some x := ⟨_, List.getElem?_eq_getElem hlt⟩;have hxm := List.mem_of_getElem? hx;have hdrop := drop_of_getElem? hx;rw [hdrop] at hrun hlen;cases o with
   | none =>
     have hr : fD L l = (none, false) := hrun;rw [hr];obtain ⟨kd, nn, ty, nm, es, th, el⟩ := x
     repeat (first | refine W.q ?_ | refine W.region ah b (by decide) (aR (by simp only [exb, simprocAttr, hlt, bA hx, aW, hJ, sO, bS]; rfl)) ?_)
     refine jA ?_;refine zm3 ?_;refine W.ret ⟨.inr rfl, by rfl, j, none, ?res, ?hi, ?hx, ?hij, ?keep⟩
     case res => simp only [Tryz.f12, resE, ay, fin, toT, jq, exb, simprocAttr] <;> rfl
     case hi => exact (upd_ne _ _ (fun e => cast (hjb _) e)).trans qK
     case hx => exact .inl rfl
     case hij => exact .inl rfl
     case keep => exact fun u z hu hz => .inr ((upd_ne _ _ (fun e => by subst e; rw [hM] at hz; cases hz)).trans (oO hu hz))
   | some L' =>
     have hlen := hlen L' rfl;obtain ⟨o', ok', hs⟩ : ∃ o' ok', jH L' x = (o', ok') := ⟨_, _, rfl⟩;have hr : fD L l = if ok' = true then DT o' (l.drop (k + 1)) else (none, false) := hrun.trans (sK L' x _ hs)
     simp only [dF] at hlen;have hcx := fun M b h1 h2 => (hst x hxm L' j M b h1 h2 (by omega))
     rw [hs] at hcx;obtain ⟨kd, nn, ty, nm, es, th, el⟩ := x;simp only [aW, aX, bf] at hcx;have hc := hcx (upd (jnM M j (some L')) (b + 7) (some (.box 37 [.c (.int .i64 kd), .c (.int .i64 nn), .c (.str ty), .c (.str nm), .c (.sl (es.map cExpr)), .c (.sl (th.map aW)), .c (.sl (el.map aW))]))) (b + 40) (Ab (b0 := b) (fun d => hJ _ d) (by omega)) (by rw [upd_ne _ _ (fun e => cast (hjb _) e)]; exact qK);obtain ⟨hbd, hc⟩ := hc
     repeat (first | refine W.q ?_ | refine W.region ah b (by decide) (aR (by simp only [exb, simprocAttr, hlt, bA hx, aW, aX, bf, hJ, sO, bS]; rfl)) ?_)
     refine W.cf rfl ?_;refine zm3 ?_;refine zm8 ?_;refine xs0 2 ?_;refine bW (D := [j]) rfl rfl rfl rfl rfl (fun u hu => by simp at hu; subst hu; exact nk) (by simp) cw2 hc ?_;simp only [dw, eY, bS];cases ok' with
     | false =>
       rw [if_neg (by simp)] at hr;rw [hr];cases o' with
       | none =>
         skip;skip;refine aA yT ?_;refine zm3 ?_;refine jA ?_;refine zm3 ?_;refine W.ret ⟨.inr rfl, by rfl, j, none, ?res, ?hi, ?hx, ?hij, ?keep⟩
         case res => simp only [Tryz.f12, resE, ay, fin, toT, jq, exb, simprocAttr] <;> rfl
         case hi => exact qK
         case hx => exact .inr rfl
         case hij => exact .inl rfl
         case keep => exact fun u z hu hz => .inr (Eo (hM 7) hu hz)
       | some L1 =>
         skip;skip;refine aA yT ?_;refine zm3 ?_;refine jA ?_;refine zm3 ?_;refine W.ret ⟨.inr rfl, by rfl, j, (some L1), ?res, ?hi, ?hx, ?hij, ?keep⟩
         case res => simp only [Tryz.f12, resE, ay, fin, toT, jq, exb, simprocAttr] <;> rfl
         case hi => exact qK
         case hx => exact .inr rfl
         case hij => exact .inl rfl
         case keep => exact fun u z hu hz => .inr (Eo (hM 7) hu hz)
     | true =>
       rw [if_pos rfl] at hr;cases o' with
       | none =>
         skip;skip;refine aA yT ?_;refine zm3 ?_;refine W.cf rfl ?_;refine zm3 ?_;refine ⟨(k + 1, none), ⟨hlt, hr, ?hb⟩, by dsimp only; omega, ?le⟩
         case le =>
          exact Ro
         case hb => exact fun _ h => by cases h
       | some L1 =>
         skip;skip;refine aA yT ?_;refine zm3 ?_;refine W.cf rfl ?_;refine zm3 ?_;refine ⟨(k + 1, (some L1)), ⟨hlt, hr, ?hb⟩, by dsimp only; omega, ?le⟩
         case le =>
          exact Ro
         case hb =>
          intro L2 h;cases h
          have h1 := hbd L1 rfl;simp only [lG] at h1 hlen;show L1.length + dF (l.drop (k + 1)) ≤ 1000000000000;omega
  ·intro hge;replace hge := dnl hge;obtain rfl : k = l.length := by omega
   rw [List.drop_length] at hrun;cases o with
   | none =>
     have hr : fD L l = (none, true) := hrun;rw [hr]
     repeat (first | refine W.q ?_ | refine W.region ah b (by decide) (aR SA) ?_)
     refine W.ret ⟨.inr rfl, by rfl, j, none, ?res, ?hi, ?hx, ?hij, ?keep⟩
     case res => simp only [Tryz.f12, resE, ay, fin, toT, jq, exb, simprocAttr] <;> rfl
     case hi => exact qK
     case hx => exact .inl rfl
     case hij => exact .inl rfl
     case keep => exact fun u z hu hz => .inr (oO hu hz)
   | some L' =>
     have hr : fD L l = (some L', true) := hrun;rw [hr]
     repeat (first | refine W.q ?_ | refine W.region ah b (by decide) (aR SA) ?_)
     refine W.ret ⟨.inr rfl, by rfl, j, (some L'), ?res, ?hi, ?hx, ?hij, ?keep⟩
     case res => simp only [Tryz.f12, resE, ay, fin, toT, jq, exb, simprocAttr] <;> rfl
     case hi => exact qK
     case hx => exact .inl rfl
     case hij => exact .inl rfl
     case keep => exact fun u z hu hz => .inr (oO hu hz)
end V
end Go.Proofs.YtgaipdillmleeaaGreat
end
section
namespace Go.Proofs.YtgaipdillmleeaaGreat
namespace AS
open V
abbrev Tr := List Nm × Bool × Bool
def rV (a b : Tr) : Tr :=
 if (!a.2.2 || !b.2.2) = true then ([], false, false)
 else if (a.2.1 && b.2.1) = true then ([], true, true)
 else if a.2.1 = true then (b.1, false, true)
 else if b.2.1 = true then (a.1, false, true)
 else (a.1.filter fun s => b.1.contains s, false, true)
mutual
def wK (H : List Nm) : Stmt → Tr
 | ⟨k, _, _, nm, es, th, el⟩ =>
   if gL H (jh k es) = false then ([], false, false)
   else if k = 1 then (if es.isEmpty = true then iE (bs nm) H else iE (bs nm) H ++ [bs nm], false, true)
   else if k = 2 then (if ownB k es = true then iE (yI es) H ++ [yI es] else H, false, true)
   else if k = 3 then rV (eZ H th) (eZ H el)
   else if k = 4 then (H, false, (eZ H th).2.2)
   else if k = 6 then ([], true, true)
   else (H, false, true)
def eZ (H : List Nm) : List Stmt → Tr
 | [] => (H, false, true)
 | x :: l => match wK H x with
   | (_, _, false) => ([], false, false)
   | (_, true, true) => (match l with | [] => ([], true, true) | _ :: _ => ([], false, false))
   | (H', false, true) => eZ H' l
end
theorem uW (H : List Nm) (x : Stmt) (l : List Stmt) {H' : List Nm} {r ok : Bool} (h : wK H x = (H', r, ok)) : eZ H (x :: l) = if ok = false then ([], false, false) else if r = true then (if l.length = 0 then ([], true, true) else ([], false, false)) else eZ H' l := by
 simp only [eZ];rw [h];cases ok
 ·cases r <;> rfl
 ·cases r
  ·rfl
  ·cases l <;> simp
def ow (H : List Nm) (k : Int) (i : Nat) (x : Expr) : Bool := if (decide (k = 2) && decide (i = 0) && decide (x.kind = 4)) = true then gL H x.kids else kC H x
theorem C8 (H : List Nm) (l : List Expr) : gL H l = true ↔ ∀ (i : Nat) (x : Expr), l[i]? = some x → kC H x = true := by
 rw [tq];simp only [Bool.not_eq_true', List.any_eq_false, Bool.not_eq_false];refine ⟨fun h i x hx => by have := h x (List.mem_of_getElem? hx); simpa using this, fun h x hx => ?_⟩;obtain ⟨i, hi⟩ := List.getElem?_of_mem hx;simpa using h i x hi
theorem NW (H : List Nm) (k : Int) (es : List Expr) : gL H (jh k es) = true ↔ ∀ i x, es[i]? = some x → ow H k i x = true := by
 cases es with
 | nil => simp [jh, ownB, gL]
 | cons y tl =>
   have ho : ownB k (y :: tl) = (decide (k = 2) && decide (y.kind = 4)) := rfl;cases hb : ownB k (y :: tl) with
   | true =>
     have hb' := hb;rw [ho, Bool.and_eq_true] at hb';have e : jh k (y :: tl) = y.kids ++ tl := by simp [jh, hb]
     rw [e, lT, Bool.and_eq_true, C8 H tl];constructor
     ·rintro ⟨h1, h2⟩ i x hx;cases i with
      | zero =>
        cases hx
        unfold ow;rw [if_pos (by simp [hb'.1, hb'.2])]; exact h1
      | succ i =>
        unfold ow;rw [if_neg (by simp)];exact h2 i x oD
     ·intro h;constructor
      ·have := h 0 y rfl
       unfold ow at this
       rwa [if_pos (by simp [hb'.1, hb'.2])] at this
      ·intro i x hx
       have := h (i + 1) x oD
       unfold ow at this
       rwa [if_neg (by simp)] at this
   | false =>
     have e : jh k (y :: tl) = y :: tl := by simp [jh, hb]
     rw [ho] at hb;rw [e, C8 H];have same : ∀ i x, (y :: tl)[i]? = some x → ow H k i x = kC H x := fun i x hx => by
      cases i with
      | zero =>
        cases hx
        unfold ow;rw [if_neg (by
         intro h;simp only [Bool.and_eq_true] at h;rw [Bool.and_eq_false_iff] at hb;rcases hb with q | q
         ·rw [q] at h; cases h.1.1
         ·rw [q] at h; cases h.2)]
      | succ i => unfold ow; rw [if_neg (by simp)]
     exact ⟨fun h i x hx => (same i x hx).trans (h i x hx), fun h i x hx => (same i x hx).symm.trans (h i x hx)⟩
mutual
theorem EM : ∀ (x : Stmt) (H : List Nm), (wK H x).1.length ≤ H.length + lG x
 | ⟨k, n, ty, nm, es, th, el⟩, H => by
   have h1 := kQ th H;have h2 := kQ el H;have hd : ∀ s, (iE s H).length ≤ H.length := fun s => List.length_filter_le (fun t => t != s) H
   simp only [wK, lG];split
   ·simp
   split
   ·have := hd (bs nm);split
    ·show (iE (bs nm) H).length ≤ _; omega
    ·exact M7
   split
   ·have := hd (yI es);split
    ·exact M7
    ·show H.length ≤ _; omega
   split
   ·unfold rV;have := List.length_filter_le (fun s => (eZ H el).1.contains s) (eZ H th).1;split
    ·simp
    split
    ·simp
    split
    ·show (eZ H el).1.length ≤ _; omega
    split
    ·show (eZ H th).1.length ≤ _; omega
    ·show (List.filter _ _).length ≤ _; omega
   split
   ·show H.length ≤ _; omega
   split
   ·simp
   ·show H.length ≤ _; omega
theorem kQ : ∀ (l : List Stmt) (H : List Nm), (eZ H l).1.length ≤ H.length + dF l
 | [], H => by simp [eZ, dF]
 | x :: l, H => by
   obtain ⟨H', r, ok, hs⟩ : ∃ H' r ok, wK H x = (H', r, ok) := ⟨_, _, _, rfl⟩;have h1 := EM x H;rw [hs] at h1;rw [uW H x l hs];simp only [dF];split
   ·simp
   split
   ·split <;> simp
   ·have := kQ l H';have h1 : H'.length ≤ H.length + lG x := h1;omega
end
end AS
end Go.Proofs.YtgaipdillmleeaaGreat
end
section
namespace Go.Proofs.YtgaipdillmleeaaGreat
open Go.Shelf Go.RowKit Go.Lib
theorem zQ : ∃ i z, Tryz.prog.info? 35 = some i ∧ i.zero = some z ∧ i.size = 4 ∧ i.bytes = 56 ∧ z.cells.size = 4 := by
 exact YF
set_option maxHeartbeats 4000000 in
set_option maxRecDepth 100000 in
theorem Lx (n : Nat) (h0 : 0 < n) (hn : n ≤ 1000000000000) (w : World) (i : TypeInfo) (z : Value) (hi : Tryz.prog.info? 35 = some i) (hz : i.zero = some z) (hs : i.size = 4) (hb : i.bytes = 56) :
 Calls Tryz.prog 85 #[.slice none 0 0, .int .i64 n] w fun e w' =>
  e = .returned (.slice (some ⟨w.heap.size, 0, none⟩) 0 (grownCap w n 0 35)) ∧
  w' = w.drew.alloc (.cells (#[] ++ Builtin.zeroCells z.cells n ++ Builtin.zeroCells z.cells (grownCap w n 0 35 - n)) 35) := by
 have h1 : ¬ ((n : Int) < 0) := by omega
 have h2 : wrap64 ((n : Int) - 0) = (n : Int) := by unfold wrap64; omega
 have h4 : (n : Int) > 0 := by omega
 have hold : (Builtin.firstCells i.size 0 (.slice none 0 0)).run Tryz.prog w.drew = .ok (([] : List Value).toArray) w.drew := run_firstCells_none w.drew i.size 0 0 0
 have hrz : ∀ ty, (Builtin.append_ #[33, 3] ty #[.slice none 0 0, .int .i64 (n : Int)]).run Tryz.prog w =
  .ok (.slice (some ⟨w.heap.size, 0, none⟩) n (grownCap w n 0 35)) (w.drew.alloc (.cells (#[] ++ Builtin.zeroCells z.cells n ++ Builtin.zeroCells z.cells (grownCap w n 0 35 - n)) 35)) := fun ty => by
  have h := Lib.run_append_grow_zeros w 33 3 ty 35 i z .i64 .i64 Tryz.underlying33 Tryz.underlying3 hi hz none 0 0 [] hold n (by omega) (by omega) (by omega) (by omega)
   (by rw [hb]; omega)
   Tc
  rw [Nat.zero_add] at h
  exact h
 have hGn : n ≤ grownCap w n 0 35 := grownCap_ge w _ _ _
 obtain ⟨G, hG⟩ : ∃ G, G = grownCap w n 0 35 := ⟨_, rfl⟩
 rw [← hG] at hrz hGn ⊢
 clear hold hG
 go_enter Tryz.func85, Tryz.ntmps85
 go_wp2_with (at_builtin; refine Lib.wpList_append_run _ rfl _ _ _ _ rfl _ _ rfl rfl _ _ (hrz _) ?_)
 all_goals (go_ret; exact ⟨rfl, rfl⟩)
set_option maxHeartbeats 1000000 in
theorem Ik (w : World) :
 Calls Tryz.prog 85 #[.slice none 0 0, .int .i64 0] w fun e w' => e = .returned (.slice none 0 0) ∧ w' = w := by
 go_enter Tryz.func85, Tryz.ntmps85
 go_wp2
 all_goals (go_ret; exact ⟨rfl, rfl⟩)
namespace V
theorem PG (n : Nat) (hn : n ≤ 1000000000000) (M : Mem) (id : Nat) (hid : M id = none) : dJ Tryz.prog 85 [.nil, .c (.int .i64 n)] M [] (.own id) (upd M id (some (.arr 35 4 []))) := by
 have hne : ∀ j, (M j).isSome = true → j ≠ id := fun j hj e => by subst e; rw [hid] at hj; cases hj
 have liv : ∀ j, (M j).isSome = true → (upd M id (some (.arr 35 4 [])) j).isSome = true := fun j hj => by rw [upd_ne _ _ (hne j hj)]; exact hj
 refine ⟨enters_of Tryz.func85 (by kernel_rfl) rfl, fun j hj => ?_, liv, fun hw i o ho j hj => ?_, ?_⟩
 ·exact TQ
 ·exact UZ
 ·intro w0 I0 B I w vals hm hv;match vals, hv with
  | [v0, v1], ⟨h0, h1, _⟩ =>
    obtain rfl : v0 = .slice none 0 0 := h0;have h1 : RC w I v1 (.int .i64 n) := h1;obtain rfl := h1.toInt.1;rcases Nat.eq_zero_or_pos n with rfl | hpos
    ·refine (Ik w).mono ?_;exact Zj
    ·obtain ⟨i, z, hi, hz, hs, hb, hzs⟩ := zQ;refine (Lx n hpos hn w i z hi hz hs hb).mono ?_;rintro e w' ⟨rfl, rfl⟩;have hE : Ext w w.drew I I := ⟨fun _ _ k => k, fun _ _ _ => rfl⟩;have hmd := hm.call (Below.refl _ _).drew;have hge : n ≤ grownCap w n 0 35 := grownCap_ge w _ _ _;have hle : grownCap w n 0 35 ≤ maxLen := grownCap_le_maxLen w n 0 _ Nl;generalize grownCap w n 0 35 = G at hge hle ⊢;have hrow : (#[] ++ Builtin.zeroCells z.cells n ++ Builtin.zeroCells z.cells (G - n)).size = G * 4 := by
      exact SV
     exact YS
end V
end Go.Proofs.YtgaipdillmleeaaGreat
end
section
namespace Go.Proofs.YtgaipdillmleeaaGreat
namespace V
open Go.RowKit
def nO (l : List Expr) : List C := [.sl (l.map cExpr)]
theorem l8 {α : Type} (ps : List (List α)) {k : Nat} {l : List α} (h : ps[k]? = some l) : (ps.take (k + 1)).flatten = (ps.take k).flatten ++ l := by
 rw [List.take_add_one, h]; simp
theorem vZ {α : Type} (ps : List (List α)) (k : Nat) : (ps.take k).flatten.length ≤ ps.flatten.length := by
 exact ZJ
set_option maxHeartbeats 2000000 in
theorem xg (ps : List (List Expr)) (hps : ps.length ≤ 1000000000000) (hn : ps.flatten.length ≤ 1000000000000) (m : Mem) : COk Tryz.prog 50 [.c (.sl (ps.map nO))] m (.c (.sl (ps.flatten.map cExpr))) := by
 refine (aS ah Tryz.func50 (by kernel_rfl) rfl rfl (by rfl) (by rfl) (by rfl) (fun R hkeep => ?_) m);refine Ga ?_;refine W.loop (ι := Nat) (fun k => ⟨upd (upd (upd (upd (upd (fun _ => .top) 0 (.c (.sl (ps.map nO)))) 3 (.c (.int .i64 (ps.take k).flatten.length))) 9 (.c (.sl (ps.map nO)))) 10 (.c (.int .i64 ps.length))) 11 (.c (.int .i64 k)), Mem.nil⟩)
  (fun k => k ≤ ps.length) (fun k => ps.length - k) 0 ?start (Nat.zero_le _) ?round
 case start =>
  exact Ae
 case round =>
  intro k hk;refine Ga ?_;refine W.cond rfl ?_ ?_
  ·intro hlt;replace hlt := dtl hlt;obtain ⟨l, hl⟩ : ∃ l, ps[k]? = some l := ⟨_, List.getElem?_eq_getElem hlt⟩;have hle := vZ ps (k + 1);rw [l8 ps hl, List.length_append] at hle;have hw : IntKind.i64.wrap (((ps.take k).flatten.length : Int) + (l.length : Int)) = ((ps.take (k + 1)).flatten.length : Int) := by
    exact Te
   have hneg : ¬ (((ps.take (k + 1)).flatten.length : Int) < 0) := by omega
   repeat (first | refine W.q ?_ | refine W.g ?_ (by simp only [exb, simprocAttr, V.tabs, bA hl, nO, hw]; rfl))
   refine W.cond rfl (fun h => absurd (by simpa using h) hneg) (fun _ => ?_);refine Ga ?_;exact WQ
  ·intro hge;replace hge := dnl hge;obtain rfl : k = ps.length := by omega
   rw [List.take_length];refine Ga ?_;refine zm1 ?_;refine aj 1 FD ?_;refine jo rfl rfl rfl rfl rfl rfl (by simp) cw2 (PG _ hn _ 24 rfl) ?_;refine aA FD ?_;refine Ga ?_;refine W.loop (ι := Nat) (fun k => ⟨upd (upd (upd (upd (fun _ => .top) 6 (.own 24)) 25 (.c (.sl (ps.map nO)))) 26 (.c (.int .i64 ps.length))) 27 (.c (.int .i64 k)), upd Mem.nil 24 (some (.arr 35 4 ((ps.take k).flatten.map cExpr)))⟩)
    (fun k => k ≤ ps.length) (fun k => ps.length - k) 0 ?start2 (Nat.zero_le _) ?round2
   case start2 =>
    exact Ae
   case round2 =>
    intro k hk;refine Ga ?_;refine W.cond rfl ?_ ?_
    ·intro hlt;replace hlt := dtl hlt;obtain ⟨l, hl⟩ : ∃ l, ps[k]? = some l := ⟨_, List.getElem?_eq_getElem hlt⟩;have hle := vZ ps (k + 1);have hft := l8 ps hl;rw [hft, List.length_append] at hle
     repeat (first | refine W.q ?_ | refine W.g ?_ (by simp only [exb, simprocAttr, V.tabs, bA hl, nO]; rfl))
     refine zm1 ?_;refine aj 2 FD ?_;refine cK ah 24 rfl rfl rfl rfl rfl rfl rfl rfl (by first | rfl | (simp only [exb, simprocAttr, V.tabs]; rfl)) rfl rfl rfl rfl (cu hkeep) (by intro z hz; obtain ⟨s, -, rfl⟩ := List.mem_map.1 hz; cases s; rfl) Ai (by decide) ?_;refine aA FD ?_;refine Ga ?_;exact VZ
    ·intro hge;replace hge := dnl hge;obtain rfl : k = ps.length := by omega
     rw [List.take_length];refine Ga ?_;refine W.rt ?_;simp only [Tryz.f50, aU, ay, toT, fin, exb, simprocAttr, V.tabs]
section
variable {P : Go.Program} {T : Tab} {kp : Nat → Prop} {base : Nat} {ops : Array Oper} {K : St → Prop}
theorem gI (hT : T.Ok P) {f i : Nat} {listed : Array Bool} {st : St} {rl : List Nat} {o : Oper} (ho : ops[i]? = some o) {c : Call} {x y : Operand} {t d : Nat} (id : Nat) {e n b : Nat} (fz : Bool) {zs : List Value} {ys : List (List C)} (h : eH ops o st.s = some true) (hop : o.op = .call c) (hc : c.callee = .builtin .append) (ha : c.args = #[x, y]) (ht : c.argTypes = #[t, t]) (hd : o.dst = some d)
 (hx : ev st.s x = .nil) (hm : st.m id = none) (hy : asC st.m (ev st.s y) = some (.sl ys)) (h1 : T.elem t = some (e, n)) (h2 : T.bytes e = some b) (h3 : T.zero e = some zs) (h4 : zs.length = n) (hl : ∀ z ∈ ys, z.length = n) (hb : ys.length * b ≤ 140737488355328) (hb0 : 0 < b)
 (hr : kD P T kp base ops K f (listed.setIfInBounds i true) ⟨upd st.s d (.own id), upd st.m id (some (dW fz e n ys))⟩) (tl : Steps P T kp base ops K f listed st rl) : Steps P T kp base ops K f listed st (i :: rl) :=
 ⟨⟨o, _, ho, .eff (tZ hT fz ⟨h, hop, hc, ha, ht, hd, hx, hm, hy, h1, h2, h3, h4, hl, hb, sN hb hb0⟩), hr⟩, tl⟩
end
def DW (ops : Array Oper) (listed : Array Bool) (i : Nat) : Bool := match ops[i]? with
 | some oi => (List.range ops.size).all fun j => j == i || listed.getD j true || (match ops[j]? with | some oj => (oj.after.any fun e => Region.binds .any e && e.on == i) || oi.apart ops oj | none => true)
 | none => false
def Hz (ops : Array Oper) : Bool := ops.all fun o => match o.op with | .select _ _ => false | _ => true
def RX (P : Go.Program) (R : Ref) (n : Nat) (ds : List Deferred) (ops : Array Oper) (K : St → Prop) (f : Nat) (listed : Array Bool) (st : St) : Prop :=
 listed.size = ops.size → lY ops listed → ∀ a w, SR R n ds st a w → wpAny P .any ops (fun e a w => ∃ st', (e = Exit.normal ∧ K st') ∧ SR R n ds st' a w) f listed a w
section
variable {P : Go.Program} {T : Tab} {R : Ref} {n : Nat} {ds : List Deferred} {base : Nat} {ops : Array Oper} {K : St → Prop}
theorem sQ (hT : T.Ok P) (hd : jX n ops = true) {f : Nat} {listed : Array Bool} {st : St} (h : kD P T R.keep base ops K f listed st) : RX P R n ds ops K f listed st := fun h1 h2 a w hr =>
 zG hT (iw hd) (fun st' a w hk hr' => ⟨st', ⟨rfl, hk⟩, hr'⟩) _ _ st a _ (h h1 h2 hr.wf) hr
theorem JZ (hT : T.Ok P) (hd : jX n ops = true) (hns : Hz ops = true) {f : Nat} {listed : Array Bool} {st : St} (i : Nat) {o : Oper} (ho : ops[i]? = some o) (hpu : ∀ a w, SR R n ds st a w → ∃ v, ∀ w', (execOp a.eval o).run P w' = .ok (.value v) w') (hg : o.guard = none) (hi : (Region.ready .any ops listed).contains i = true) (hap : DW ops listed i = true)
 (h : ∃ st1, jS T base ops i st = some st1 ∧ RX P R n ds ops K f (listed.setIfInBounds i true) st1) : RX P R n ds ops K (f + 1) listed st := by
 intro hsz hc a w hr
 obtain ⟨st1, h1, h2⟩ := h
 have hi : i ∈ Region.ready .any ops listed := by simpa using hi
 obtain ⟨o', ho', hs⟩ := BO (P := P) (kp := R.keep) h1
 rw [ho] at ho'; cases ho'
 have hwant : ∀ a : Act, Region.wanted o (yielded ops a.tmps) = true := fun a => by simp [Region.wanted, hg]
 obtain ⟨v, hrun⟩ := hpu a w hr
 have hgo := hs.snd hT hr (hd := fun d e => iw hd o (Array.mem_of_getElem? ho) d e) (K := fun a' w' => SR R n ds st1 a' w') (Q := fun _ _ _ => False) (fun a' w' hr' => hr')
 rw [if_pos (hwant a)] at hgo
 unfold Oper.wp at hgo
 rw [hrun] at hgo
 refine wpAny_first (oi := o) (v := v) ho (fun j oj cs b hj e => ?_) (fun c a w hq => by obtain ⟨_, ⟨hq, -⟩, -⟩ := hq; cases hq) f listed a w (fun j oj hj hji hl hne => ?_) hi (.inl ⟨hwant a, hrun⟩) (h2 Dw (qc hsz hc hi) _ _ hgo)
 ·have := Array.all_eq_true.1 hns j (Array.getElem?_eq_some_iff.1 hj).1
  rw [(Array.getElem?_eq_some_iff.1 hj).2, e] at this
  cases this
 ·unfold DW at hap
  rw [ho] at hap
  have hlt := (Array.getElem?_eq_some_iff.1 hj).1
  have := List.all_eq_true.1 hap j (List.mem_range.2 hlt)
  simp only [Bool.or_eq_true, beq_iff_eq, hj] at this
  rcases this with (z | z) | z | z
  ·exact absurd z hji
  ·rw [Array.getD_eq_getD_getElem?] at z hl
   rw [hl] at z; cases z
  ·obtain ⟨q, hq, hz⟩ := Array.any_eq_true'.1 z
   simp only [Bool.and_eq_true, beq_iff_eq] at hz
   exact absurd hz.2 (hne q hq hz.1)
  ·exact z
theorem lN (hT : T.Ok P) (hd : jX n ops = true) (hns : Hz ops = true) {f : Nat} {listed : Array Bool} {st : St} (i : Nat) {o : Oper} {x : Operand} (ho : ops[i]? = some o) (hop : o.op = .move x) (hg : o.guard = none) (hi : (Region.ready .any ops listed).contains i = true) (hap : DW ops listed i = true)
 (h : ∃ st1, jS T base ops i st = some st1 ∧ RX P R n ds ops K f (listed.setIfInBounds i true) st1) : RX P R n ds ops K (f + 1) listed st :=
 JZ hT hd hns i ho (fun a w _ => ⟨a.eval x, fun w' => by simp [execOp, hop]⟩) hg hi hap h
theorem vS (hT : T.Ok P) (hd : jX n ops = true) (hns : Hz ops = true) {f : Nat} {listed : Array Bool} {st : St} (i : Nat) {o : Oper} {ty fl j off : Nat} {x : Operand} {q : Nat × Nat × Bool} (ho : ops[i]? = some o) (hop : o.op = .fieldAddr ty x fl) (hx : ev st.s x = .ptr j off) (hq : T.off ty fl = some q) (hg : o.guard = none) (hi : (Region.ready .any ops listed).contains i = true) (hap : DW ops listed i = true)
 (h : ∃ st1, jS T base ops i st = some st1 ∧ RX P R n ds ops K f (listed.setIfInBounds i true) st1) : RX P R n ds ops K (f + 1) listed st :=
 JZ hT hd hns i ho (fun a w hr => by
  obtain ⟨B, I, hm, -, -, hs⟩ := hr.ex;have := gM hs x;rw [hx] at this;obtain ⟨b, -, hv⟩ := this;obtain ⟨o1, n1, g1⟩ := q;exact ⟨.pointer (some ⟨b, off + o1, none⟩), fun w' => by simp only [execOp, hop, hv, Sem.run_bind, nZ hT hq, Result.andThen_ok]; rfl⟩) hg hi hap h
theorem W.lZ (hT : T.Ok P) {id : Nat} {st : St} {Kx : Exit → St → Prop} (hm : P.follows .mixedOrders = true) (can : St) (h : RX P R n ds ops (fun st' => Le R.keep st' can) ops.size (Array.replicate ops.size false) st) (hK : ∀ st', Le R.keep st' can → Kx .normal st') : W P R n ds st (.region id ops true) Kx := by
 intro a w hr;have hx := h (by simp) (yM rfl) a { w with drawn := w.drawn + 1 } (by
  obtain ⟨⟨B, I, hmr, hx0, hkp, hs⟩, h2, h3, hnn, h4, h5⟩ := hr;have hE : Ext w w.drew I I := ⟨fun _ _ k => k, fun _ _ _ => rfl⟩;exact ⟨⟨B, I, hmr.call (Below.refl _ _).drew, hx0.trans hE, hkp, fun t => (hs t).mono hE fun _ _ => rfl⟩, h2, h3, hnn, h4, h5⟩)
 exact wp_mono (wp_region_any hm hx) fun e a w ⟨st', ⟨he, hk⟩, hs⟩ => ⟨st', he ▸ hK st' hk, hs⟩
end
end V
end Go.Proofs.YtgaipdillmleeaaGreat
end
section
namespace Go.Proofs.YtgaipdillmleeaaGreat
namespace V
open Go.RowKit AS
theorem iN {P : Go.Program} {T : Tab} {kp : Nat → Prop} {base : Nat} {ops : Array Oper} {K : St → Prop} {f i : Nat} {listed : Array Bool} {st : St} {rl : List Nat} {o : Oper} {r : A} {c : Call} {x : Operand} {g : FuncId} {ids : List Nat} {args : List A} {D : List Nat} {M' : Mem} {d : Nat} (ho : ops[i]? = some o) (hd : o.dst = some d) (h : eH ops o st.s = some true) (hop : o.op = .call c) (hc : c.callee = .value x) (hbar : kind T o.op = .barrier) (hx : ev st.s x = .fn g ids) (hkp : ∀ j ∈ D, ¬ kp j) (hb : ∀ j ∈ ids, ∃ ty cells, st.m j = some (.box ty cells))
 (ha : Cvs st.m (c.args.toList.map (ev st.s) ++ ids.map (A.ptr · 0)) args) (hk : dJ P g args st.m D r M') (hr : kD P T kp base ops K f (listed.setIfInBounds i true) ⟨upd (dw D st.s) d r, M'⟩) (tl : Steps P T kp base ops K f listed st rl) : Steps P T kp base ops K f listed st (i :: rl) :=
 ⟨⟨o, _, ho, .eff (BM hkp hbar h hop hc hx hb ha hk), by rw [hd]; exact hr⟩, tl⟩
theorem W.R7 {P : Go.Program} {R : Ref} {n : Nat} {ds : List Deferred} {st : St} {x y : Code} {K : Exit → St → Prop} (can : St) (h : W P R n ds st x (fun e st' => e = .normal ∧ Le R.keep st' can)) (k : W P R n ds can y K) : W P R n ds st x (yG (fun st' => W P R n ds st' y K) K) :=
 W.mono h fun e st' ⟨h1, h2⟩ => by subst h1; exact W.weaken h2 k
theorem Ht {k : Int} : ∀ {es : List Expr}, es.length ≤ 1048576 → uI es → (jh k es).length ≤ 4000000 ∧ ∀ x ∈ jh k es, SmE x
 | [], h1, h2 => ⟨by simp [jh, ownB], fun x hx => by simp [jh, ownB] at hx⟩
 | ⟨xk, xn, xm, xs⟩ :: tl, h1, h2 => by
   have h3 := h2;simp only [uI, SmE] at h3;unfold jh;split
   ·refine ⟨?_, fun x hx => ?_⟩
    ·simp only [List.length_append, List.length_cons] at h1 ⊢; omega
    ·rcases List.mem_append.1 hx with hx | hx
     ·exact h3.1.2.mem hx
     ·exact h3.2.mem hx
   ·exact ⟨Nat.le_trans h1 (by decide), fun x hx => h2.mem hx⟩
set_option maxHeartbeats 8000000 in
theorem Sd (k nn : Int) (ty nm : ByteArray) (es : List Expr) (th el : List Stmt) (hS : SmS ⟨k, nn, ty, nm, es, th, el⟩)
 (hT : ∀ (L : List Nm) (j : Nat) (M : Mem) (b : Nat), (∀ d, M (b + d) = none) → M j = some (.names (some L)) → L.length + dF th ≤ 1000000000000 → dJ Tryz.prog 12 [.map j, .c (.sl (th.map aW))] M [j] (jq (fD L th).1 (fD L th).2 j) (jnM M j (fD L th).1))
 (hE : ∀ (L : List Nm) (j : Nat) (M : Mem) (b : Nat), (∀ d, M (b + d) = none) → M j = some (.names (some L)) → L.length + dF el ≤ 1000000000000 → dJ Tryz.prog 12 [.map j, .c (.sl (el.map aW))] M [j] (jq (fD L el).1 (fD L el).2 j) (jnM M j (fD L el).1))
 (L : List Nm) (hlen : ∀ LT, (fD L th).1 = some LT → LT.length ≤ L.length + dF th) (j : Nat) (M : Mem) (b : Nat) (hM : ∀ d, M (b + d) = none) (hj : M j = some (.names (some L))) (hL : L.length + dF th + dF el ≤ 1000000000000) :
 dJ Tryz.prog 26 [.map j, .agg (aW ⟨k, nn, ty, nm, es, th, el⟩)] M [j] (jq (jH L ⟨k, nn, ty, nm, es, th, el⟩).1 (jH L ⟨k, nn, ty, nm, es, th, el⟩).2 j) (jnM M j (jH L ⟨k, nn, ty, nm, es, th, el⟩).1) := by
 have hjb : ∀ d, (j = b + d) = False := jK hM hj
 have hjb' : ∀ d, (b + d = j) = False := nG hM hj
 have hjs : (M j).isSome = true := by rw [hj]; rfl
 simp only [SmS] at hS
 obtain ⟨s1, s2, s3, s4, s5, s6⟩ := hS
 refine JR ah j _ _ Tryz.func26 (by kernel_rfl) rfl rfl (by rfl) (by rfl) (fun a ha i hi => ?_) hjs (fun hWF Rr hkeep => ?_)
 ·simp at ha; rcases ha with rfl | rfl <;> simp [A.ids] at hi; subst hi; exact hjs
 have nk : ¬ Rr.keep j := by rw [hkeep]; exact fun h => h.2 (by simp)
 simp only [aW, aX, bf]
 obtain ⟨B2, hB2⟩ : ∃ o : O, o = .box 48 [.map j] := ⟨_, rfl⟩
 obtain ⟨B3, hB3⟩ : ∃ o : O, o = .box 37 [.c (.int .i64 k), .c (.int .i64 nn), .c (.str ty), .c (.str nm), .c (.sl (es.map cExpr)), .c (.sl (th.map aW)), .c (.sl (el.map aW))] := ⟨_, rfl⟩
 obtain ⟨M2, hM2⟩ : ∃ m : Mem, m = upd (upd M (b + 2) (some B2)) (b + 3) (some B3) := ⟨_, rfl⟩
 have hfar : ∀ d, M2 (b + 20 + d) = none := fun d => by
  rw [hM2, upd_ne _ _ (by omega), upd_ne _ _ (by omega), Nat.add_assoc]; exact hM _
 have h2j : M2 j = some (.names (some L)) := by
  rw [hM2, upd_ne _ _ (fun e => cast (hjb _) e), upd_ne _ _ (fun e => cast (hjb _) e)]; exact hj
 have h22 : M2 (b + 2) = some B2 := by
  rw [hM2, upd_ne _ _ (by omega), upd_same]
 have h23 : M2 (b + 3) = some B3 := by rw [hM2, upd_same]
 have hW2 : WFm M2 := by
  subst hM2 hB2 hB3;exact dH (dH hWF (fun i hi => by simp [O.ids, A.ids] at hi; subst hi; rw [upd_ne _ _ (fun e => cast (hjb _) e)]; exact hjs)) (fun i hi => by simp [O.ids, A.ids] at hi)
 have kept2 : ∀ i, Rr.keep i → (M2 i).isSome = true := fun i hi => by rw [hkeep] at hi; rw [hM2]; exact cO i (cO i hi.1)
 repeat (first | refine W.seq ?_ | refine W.block ?_)
 refine W.R7 ⟨upd (upd (fun _ => .top) 2 (.ptr (b + 2) 0)) 3 (.ptr (b + 3) 0), M2⟩ ?_ ?_
 ·subst hM2 hB2 hB3
  repeat (first | refine W.q ?_ | refine W.region ah b (by decide) (aR (by simp only [exb, simprocAttr, hM, hjb, hjb', Nat.add_left_cancel_iff]; rfl)) ?_)
  refine ⟨rfl, ?_⟩
  (refine dU ?sle ?mle ?swf ?mwf (kept2) (by rfl)
   case swf => repeat (first | exact bP _ | refine bQ ?_ Vp)
   case mwf => exact hW2
   case sle => repeat (first | exact aM _ | exact aH _ | refine aL ?_ tH)
   case mle => exact dY rfl)
 refine W.seq ?_
 refine W.R7 ⟨upd (upd (upd (fun _ => .top) 2 (.ptr (b + 2) 0)) 3 (.ptr (b + 3) 0)) 6 (.c (.bool (ownB k es))), M2⟩ ?_ ?_
 ·cases es with
  | nil =>
    have ho : ownB k [] = false := rfl;rw [ho];by_cases h2 : k = 2
    ·subst h2
     repeat (first | refine W.q ?_ | refine W.region ah b (by decide) (aR (by simp only [exb, simprocAttr, h22, h23, hB3, List.map_nil]; rfl)) ?_)
     refine ⟨rfl, ?_⟩
     (refine dU ?sle ?mle ?swf ?mwf (kept2) (by rfl)
      case swf => repeat (first | exact bP _ | refine bQ ?_ Vp)
      case mwf => exact hW2
      case sle => repeat (first | exact aM _ | exact aH _ | refine aL ?_ tH)
      case mle => exact dY rfl)
    ·have h2' : decide (k = 2) = false := by simp [h2]
     refine ZR ?_
     (refine dU ?sle ?mle ?swf ?mwf (kept2) (by rfl)
      case swf => repeat (first | exact bP _ | refine bQ ?_ Vp)
      case mwf => exact hW2
      case sle => repeat (first | exact aM _ | exact aH _ | refine aL ?_ tH)
      case mle => exact dY rfl)
  | cons x tl =>
    obtain ⟨xk, xn, xm, xs⟩ := x;have ho : ownB k (⟨xk, xn, xm, xs⟩ :: tl) = (decide (k = 2) && decide (xk = 4)) := rfl;rw [ho];by_cases h2 : k = 2
    ·subst h2;have hpos : (0 : Int) < ((tl.length + 1 : Nat) : Int) := by omega
     repeat (first | refine W.q ?_ | refine W.region ah b (by decide) (aR (by simp only [exb, simprocAttr, h22, h23, hB3, List.map_cons, cExpr, List.length_cons, List.length_map, hpos, decide_true]; rfl)) ?_)
     refine ⟨rfl, ?_⟩;simp only [decide_true, Bool.true_and]
     (refine dU ?sle ?mle ?swf ?mwf (kept2) (by rfl)
      case swf => repeat (first | exact bP _ | refine bQ ?_ Vp)
      case mwf => exact hW2
      case sle => repeat (first | exact aM _ | exact aH _ | refine aL ?_ tH)
      case mle => exact dY rfl)
    ·have h2' : decide (k = 2) = false := by simp [h2]
     refine ZR ?_;simp only [h2', Bool.false_and]
     (refine dU ?sle ?mle ?swf ?mwf (kept2) (by rfl)
      case swf => repeat (first | exact bP _ | refine bQ ?_ Vp)
      case mwf => exact hW2
      case sle => repeat (first | exact aM _ | exact aH _ | refine aL ?_ tH)
      case mle => exact dY rfl)
 repeat (first | refine W.q ?_ | refine W.region ah b (by decide) (aR OT) ?_)
 refine W.R7 ⟨upd (upd (upd (upd (fun _ => .top) 2 (.ptr (b + 2) 0)) 3 (.ptr (b + 3) 0)) 6 (.c (.bool (ownB k es)))) 7 (.c (.sl ((jh k es).map cExpr))), M2⟩ ?_ ?_
 ·cases es with
  | nil =>
    refine W.cond rfl (fun h => absurd h (by simp [ownB])) (fun _ => ?_);refine zm3 ?_;refine ⟨rfl, ?_⟩;have ha : jh k [] = [] := rfl;rw [ha]
    (refine dU ?sle ?mle ?swf ?mwf (kept2) (by rfl)
     case swf => repeat (first | exact bP _ | refine bQ ?_ Vp)
     case mwf => exact hW2
     case sle => repeat (first | exact aM _ | exact aH _ | refine aL ?_ tH)
     case mle => exact dY rfl)
  | cons x tl =>
    obtain ⟨xk, xn, xm, xs⟩ := x;cases ho : ownB k (⟨xk, xn, xm, xs⟩ :: tl) with
    | false =>
      refine W.cf rfl ?_;refine zm3 ?_;refine ⟨rfl, ?_⟩;have ha : jh k (⟨xk, xn, xm, xs⟩ :: tl) = ⟨xk, xn, xm, xs⟩ :: tl := by simp [jh, ho]
      rw [ha]
      (refine dU ?sle ?mle ?swf ?mwf (kept2) (by rfl)
       case swf => repeat (first | exact bP _ | refine bQ ?_ Vp)
       case mwf => exact hW2
       case sle => repeat (first | exact aM _ | exact aH _ | refine aL ?_ tH)
       case mle => exact dY rfl)
    | true =>
      refine jA ?_;have ha : jh k (⟨xk, xn, xm, xs⟩ :: tl) = xs ++ tl := by simp [jh, ho]
      rw [ha];have hcc := xg [xs, tl] (by simp) (by
       simp only [uI, SmE] at s2;simp only [List.flatten_cons, List.flatten_nil, List.append_nil, List.length_append];simp only [List.length_cons] at s1;omega)
      simp only [List.map_cons, List.map_nil, nO, List.flatten_cons, List.flatten_nil, List.append_nil] at hcc;have hall : (∀ z, z ∈ [C.int IntKind.i64 xk, C.int IntKind.i64 xn, C.str xm, C.sl (xs.map cExpr)] :: tl.map cExpr → z.length = 4) = True := eq_true fun z hz => by
       rcases List.mem_cons.1 hz with rfl | hz
       ·rfl
       ·obtain ⟨y, -, rfl⟩ := List.mem_map.1 hz; cases y; rfl
      have htk : List.take tl.length (tl.map cExpr) = tl.map cExpr := List.take_of_length_le (by simp);refine yZ ?_;refine aj 7 (by simp only [exb, simprocAttr, h22, h23, hB3, List.map_cons, cExpr, aX, List.length_cons, List.length_map, hall, htk, or_true, and_true, Nat.le_refl]; rfl) ?_;refine av rfl rfl rfl rfl rfl (by simp) cw1 (hcc _) ?_;refine xe0 ?_;refine ⟨rfl, ?_⟩
      (refine dU ?sle ?mle ?swf ?mwf (kept2) (by rfl)
       case swf => repeat (first | exact bP _ | refine bQ ?_ Vp)
       case mwf => exact hW2
       case sle => repeat (first | exact aM _ | exact aH _ | refine aL ?_ tH)
       case mle => exact dY rfl)
 obtain ⟨aq, hasE⟩ : ∃ l, l = jh k es := ⟨_, rfl⟩
 have hasm : aq.length ≤ 4000000 ∧ ∀ x ∈ aq, SmE x := hasE ▸ Ht s1 s2
 rw [← hasE]
 have hct := wL aq (by omega) 52 (b + 2) M2 (fun x => !kC L x) (b + 20) hfar (hB2 ▸ h22) (fun x hx => Pz x L M2 (b + 20) j (b + 2) hfar h2j (hB2 ▸ h22) (fun M b hM hj => XL _ x (Nat.le_refl _) (hasm.2 x hx) L j M b hM hj))
 have hk2 : ∀ u z, u ≠ j → M u = some z → M2 u = some z := fun u z hu hz => by
  rw [hM2, upd_ne _ _ (fun e => by subst e; rw [hM] at hz; cases hz), upd_ne _ _ (fun e => by subst e; rw [hM] at hz; cases hz)]; exact hz
 have hst : jH L ⟨k, nn, ty, nm, es, th, el⟩ = if gL L aq = false then (none, false)
  else if k = 1 then (some (if es.isEmpty = true then iE (bs nm) L else fQ (bs nm) (iE (bs nm) L)), true)
  else if k = 2 then (some (if ownB k es = true then fQ (yI es) L else L), true)
  else if k = 3 then (tN (fD L th).1 (fD L el).1, (fD L th).2 && (fD L el).2)
  else if k = 4 then (some L, (fD L th).2)
  else if k = 6 then (none, true)
  else (some L, true) := by rw [hasE]; simp only [jH]
 rw [hst]
 repeat (first | refine W.q ?_ | refine W.region ah b (by decide) xr0 ?_)
 refine W.bR ah b (by decide) ?_
 refine xs0 2 ?_
 refine bW (D := []) rfl rfl rfl rfl rfl (fun j hj => by simp at hj) (by simp) cw2 hct ?_
 simp only [dw, eY, bS]
 refine xe0 ?_
 rw [tq]
 cases hask : aq.any fun x => !kC L x with
 | true =>
   refine jA ?_;refine zm3 ?_;refine W.ret ⟨.inr rfl, by rfl, j, (some L), ?res, ?hi, ?hx, ?hij, ?keep⟩
   case res => simp only [Tryz.f26, resE, ay, fin, toT, jq, exb, simprocAttr, Bool.not_true] <;> rfl
   case hi => exact h2j
   case hx => exact .inr rfl
   case hij => exact .inl rfl
   case keep => exact fun u z hu hz => .inl (hk2 u z hu hz)
 | false =>
   refine W.cf rfl ?_;rw [if_neg (by simp)];refine Q8 ?_;by_cases k1 : k = 1
   ·subst k1;rw [if_pos rfl];refine jA ?_;refine zm4 ?_;refine zm8 ?_;refine aj 3 (by simp only [exb, simprocAttr, h22, h23, hB3, hB2]; rfl) ?_;refine KP ah rfl rfl rfl rfl rfl rfl rfl h2j rfl rfl rfl ?_;refine xe0 ?_;have e22 : upd M2 j (some (.names (some (iE (bs nm) L)))) (b + 2) = some B2 := (upd_ne _ _ (fun e => cast (hjb' _) e)).trans h22;have e23 : upd M2 j (some (.names (some (iE (bs nm) L)))) (b + 3) = some B3 := (upd_ne _ _ (fun e => cast (hjb' _) e)).trans h23;obtain ⟨M3, hM3⟩ : ∃ m, m = upd M2 j (some (.names (some (iE (bs nm) L)))) := ⟨_, rfl⟩;have e3j : M3 j = some (.names (some (iE (bs nm) L))) := by rw [hM3, upd_same]
    rw [← hM3] at e22 e23 ⊢;cases es with
    | nil =>
      repeat (first | refine W.q ?_ | refine W.region ah b (by decide) (aR TI) ?_)
      refine W.cf rfl ?_
      repeat (first | refine W.q ?_ | refine W.region ah b (by decide) (aR TI) ?_)
      refine W.ret ⟨.inr rfl, by rfl, j, (some (iE (bs nm) L)), ?res, ?hi, ?hx, ?hij, ?keep⟩
      case res => simp only [Tryz.f26, resE, ay, fin, toT, jq, exb, simprocAttr] <;> rfl
      case hi => exact e3j
      case hx => exact .inl rfl
      case hij => exact .inl rfl
      case keep => exact fun u z hu hz => .inl Ta
    | cons x tl =>
      have hpos : (0 : Int) < ((tl.length + 1 : Nat) : Int) := by omega
      repeat (first | refine W.q ?_ | refine W.region ah b (by decide) (aR (by simp only [exb, simprocAttr, e22, e23, hB3, hB2, List.map_cons, List.length_cons, List.length_map, hpos, decide_true]; rfl)) ?_)
      refine jA ?_;refine zm8 ?_;refine aj 3 (by simp only [exb, simprocAttr, e22, e23, hB3, hB2]; rfl) ?_;refine yg ah rfl rfl rfl rfl e3j rfl rfl rfl rfl ?_;refine xe0 ?_;have f22 : upd M3 j (some (.names (some (fQ (bs nm) (iE (bs nm) L))))) (b + 2) = some B2 := (upd_ne _ _ (fun e => cast (hjb' _) e)).trans e22
      repeat (first | refine W.q ?_ | refine W.region ah b (by decide) (aR (by simp only [exb, simprocAttr, hjb', e22, hB2]; rfl)) ?_)
      refine W.ret ⟨.inr rfl, by rfl, j, (some (fQ (bs nm) (iE (bs nm) L))), ?res, ?hi, ?hx, ?hij, ?keep⟩
      case res => simp only [Tryz.f26, resE, ay, fin, toT, jq, exb, simprocAttr] <;> rfl
      case hi => exact upd_same ..
      case hx => exact .inl rfl
      case hij => exact .inl rfl
      case keep => exact fun u z hu hz => .inl ((upd_ne _ _ hu).trans Ta)
   have k1' : decide (k = 1) = false := by simp [k1]
   rw [if_neg k1];refine W.cond rfl (fun h => absurd h (by simp [k1])) (fun _ => ?_);refine Q8 ?_;by_cases k2 : k = 2
   ·subst k2;rw [if_pos rfl];refine jA ?_;refine Q8 ?_;cases ho : ownB 2 es with
    | false =>
      refine W.cf rfl ?_;refine XY ?_;exact YH
    | true =>
      cases es with
      | nil => cases ho
      | cons x tl =>
        obtain ⟨xk, xn, xm, xs⟩ := x;refine jA ?_;refine yZ ?_;refine aj 6 (by simp only [exb, simprocAttr, h22, h23, hB3, hB2, List.map_cons, cExpr]; rfl) ?_;refine yg ah rfl rfl rfl rfl h2j rfl rfl rfl rfl ?_;refine xe0 ?_;have f22 : upd M2 j (some (.names (some (fQ (bs xm) L)))) (b + 2) = some B2 := (upd_ne _ _ (fun e => cast (hjb' _) e)).trans h22
        repeat (first | refine W.q ?_ | refine W.region ah b (by decide) (aR (by simp only [exb, simprocAttr, hjb', h22, hB2]; rfl)) ?_)
        refine W.ret ⟨.inr rfl, by rfl, j, (some (fQ (bs xm) L)), ?res, ?hi, ?hx, ?hij, ?keep⟩
        case res => simp only [Tryz.f26, resE, ay, fin, toT, jq, exb, simprocAttr] <;> rfl
        case hi => exact upd_same ..
        case hx => exact .inl rfl
        case hij => exact .inl rfl
        case keep => exact fun u z hu hz => .inl ((upd_ne _ _ hu).trans (hk2 u z hu hz))
   have k2' : decide (k = 2) = false := by simp [k2]
   rw [if_neg k2];refine W.cond rfl (fun h => absurd h (by simp [k2])) (fun _ => ?_);refine Q8 ?_;by_cases k3 : k = 3
   ·subst k3;rw [if_pos rfl];refine jA ?_;refine zm4 ?_;have hq0 : M2 (b + 60) = none := by rw [show b + 60 = b + 20 + 40 by omega]; exact hfar 40
    have hcl := Dv (M := M2) (j := j) (q := b + 60) (o := some L) h2j hq0;obtain ⟨oT, okT, hrT⟩ : ∃ o ok, fD L th = (o, ok) := ⟨_, _, rfl⟩;have hT2 := hT L (b + 60) (upd M2 (b + 60) (some (.names (some L)))) (b + 80) (fun d => by rw [upd_ne _ _ (by omega), show b + 80 + d = b + 20 + (60 + d) by omega]; exact hfar _) (upd_same ..) (by omega);rw [hrT] at hT2;have hjn : jnM (upd M2 (b + 60) (some (.names (some L)))) (b + 60) oT = upd M2 (b + 60) (some (.names oT)) := AY hW2 hq0;simp only [hjn] at hT2;rw [hrT];have nkq : ¬ Rr.keep (b + 60) := by rw [hkeep]; exact fun h => by have h1 := h.1; rw [hM] at h1; cases h1
    obtain ⟨oE, okE, hrE⟩ : ∃ o ok, fD L el = (o, ok) := ⟨_, _, rfl⟩;have hE2 := hE L j (upd M2 (b + 60) (some (.names oT))) (b + 200) (fun d => by rw [upd_ne _ _ (by omega), show b + 200 + d = b + 20 + (180 + d) by omega]; exact hfar _) ((upd_ne _ _ (fun e => cast (hjb _) e)).trans h2j) (by omega);rw [hrE] at hE2 ⊢;obtain ⟨M3, hM3⟩ : ∃ m, m = upd M2 (b + 60) (some (.names oT)) := ⟨_, rfl⟩;rw [← hM3] at hT2 hE2;have h3far : ∀ d, M3 (b + 300 + d) = none := fun d => by rw [hM3, upd_ne _ _ (by omega), show b + 300 + d = b + 20 + (280 + d) by omega]; exact hfar _
    have h3j : (M3 j).isSome = true := by rw [hM3, upd_ne _ _ (fun e => cast (hjb _) e), h2j]; rfl
    have h32 : M3 (b + 2) = some B2 := by rw [hM3, upd_ne _ _ (by omega)]; exact h22
    have h33 : M3 (b + 3) = some B3 := by rw [hM3, upd_ne _ _ (by omega)]; exact h23
    have h3q : M3 (b + 60) = some (.names oT) := by rw [hM3, upd_same]
    have h3k : ∀ u z, u ≠ j → M u = some z → M3 u = some z := fun u z hu hz => by rw [hM3]; exact (upd_ne _ _ (fun e => by subst e; rw [hM] at hz; cases hz)).trans (hk2 u z hu hz)
    have hW3 : WFm M3 := by rw [hM3]; exact dH hW2 (fun i hi => by simp [O.ids] at hi)
    have kept3 : ∀ i, Rr.keep i → (M3 i).isSome = true := fun i hi => by rw [hM3]; exact cO i (kept2 i hi)
    obtain ⟨M4, hM4⟩ : ∃ m, m = jnM M3 j oE := ⟨_, rfl⟩;have h4far : ∀ d, M4 (b + 300 + d) = none := fun d => by rw [hM4]; exact zN (h3far d) h3j
    have h4j : M4 j = some (.names oE) := by rw [hM4]; exact qK
    have h4q : M4 (b + 60) = some (.names oT) := by rw [hM4]; exact oO (fun e => cast (hjb' _) e) h3q
    have h4k : ∀ u z, u ≠ j → M u = some z → M4 u = some (O.kill j z) := fun u z hu hz => by rw [hM4]; exact oO hu (h3k u z hu hz)
    rw [← hM4] at hE2;cases oT with
    | none =>
      skip;rw [hM3] at hT2;refine W.lZ ah bC ⟨upd (upd (upd (upd (fun _ => .top) 2 (.ptr (b + 2) 0)) 3 (.ptr (b + 3) 0)) 8 Ec) 9 (.c (.bool okT)), upd M2 (b + 60) (some (.names none))⟩ ?_ ?_;exact zt3;intro st' hle;refine W.weaken hle ?_;clear hle st';rw [← hM3];refine zm4 ?_;refine zm8 ?_;refine aj 3 aac ?_;refine bW (D := [j]) rfl rfl rfl rfl rfl (fun u hu => by simp at hu; subst hu; exact nk) (by simp) cw2 hE2 ?_;simp only [dw, eY, bS];cases oE with
      | none =>
        skip;refine aA yT ?_;refine zm4 ?_;refine zm8 ?_;refine aj 2 Q7 ?_;refine bW (D := []) rfl rfl rfl rfl rfl (fun j hj => by simp at hj) (by simp) cw2 (Sg M4 (b + 300) h4far) ?_;simp only [dw, eY, bS];have hand : ∀ x : Bool, (false && x) = false := fun x => rfl
        cases okT
        refine xe0 ?_;refine W.ret ⟨.inr rfl, by rfl, j, none, ?res, ?hi, ?hx, ?hij, ?keep⟩
        case res => simp only [Tryz.f26, resE, ay, fin, toT, jq, exb, simprocAttr, tN] <;> rfl
        case hi => (exact h4j)
        case hx => exact .inl rfl
        case hij => first | exact .inl rfl | exact .inr (hM _)
        case keep => exact fun u z hu hz => .inr RI
        refine xe0 ?_;refine W.ret ⟨.inr rfl, by rfl, j, none, ?res, ?hi, ?hx, ?hij, ?keep⟩
        case res => simp only [Tryz.f26, resE, ay, fin, toT, jq, exb, simprocAttr, tN] <;> rfl
        case hi => (exact h4j)
        case hx => exact .inl rfl
        case hij => exact .inl rfl
        case keep => exact fun u z hu hz => .inr (h4k u z hu hz)
      | some LE =>
        skip;refine aA yT ?_;refine zm4 ?_;refine zm8 ?_;refine aj 2 Q7 ?_;refine bW (D := []) rfl rfl rfl rfl rfl (fun j hj => by simp at hj) (by simp) cw2 (R9 j M4 (b + 300) h4far h4j) ?_;simp only [dw, eY, bS];have hand : ∀ x : Bool, (false && x) = false := fun x => rfl
        cases okT
        refine xe0 ?_;refine W.ret ⟨.inr rfl, by rfl, j, (some LE), ?res, ?hi, ?hx, ?hij, ?keep⟩
        case res => simp only [Tryz.f26, resE, ay, fin, toT, jq, exb, simprocAttr, tN] <;> rfl
        case hi => (exact h4j)
        case hx => exact .inl rfl
        case hij => first | exact .inl rfl | exact .inr (hM _)
        case keep => exact fun u z hu hz => .inr RI
        refine xe0 ?_;refine W.ret ⟨.inr rfl, by rfl, j, (some LE), ?res, ?hi, ?hx, ?hij, ?keep⟩
        case res => simp only [Tryz.f26, resE, ay, fin, toT, jq, exb, simprocAttr, tN] <;> rfl
        case hi => (exact h4j)
        case hx => exact .inl rfl
        case hij => exact .inl rfl
        case keep => exact fun u z hu hz => .inr (h4k u z hu hz)
    | some LT =>
      skip;rw [hM3] at hT2;refine W.lZ ah bC ⟨upd (upd (upd (upd (fun _ => .top) 2 (.ptr (b + 2) 0)) 3 (.ptr (b + 3) 0)) 8 (.map (b + 60))) 9 (.c (.bool okT)), upd M2 (b + 60) (some (.names (some LT)))⟩ ?_ ?_;exact zt3;intro st' hle;refine W.weaken hle ?_;clear hle st';rw [← hM3];refine zm4 ?_;refine zm8 ?_;refine aj 3 aac ?_;refine bW (D := [j]) rfl rfl rfl rfl rfl (fun u hu => by simp at hu; subst hu; exact nk) (by simp) cw2 hE2 ?_;simp only [dw, eY, bS];cases oE with
      | none =>
        skip;refine aA yT ?_;refine zm4 ?_;refine zm8 ?_;refine aj 2 Q7 ?_;refine bW (D := []) rfl rfl rfl rfl rfl (fun j hj => by simp at hj) (by simp) cw2 (QI (b + 60) M4 (b + 300) h4far h4q) ?_;simp only [dw, eY, bS];have hand : ∀ x : Bool, (false && x) = false := fun x => rfl
        cases okT
        refine xe0 ?_;refine W.ret ⟨.inr rfl, by rfl, (b + 60), (some LT), ?res, ?hi, ?hx, ?hij, ?keep⟩
        case res => simp only [Tryz.f26, resE, ay, fin, toT, jq, exb, simprocAttr, tN] <;> rfl
        case hi => (exact h4q)
        case hx => exact .inl rfl
        case hij => first | exact .inl rfl | exact .inr (hM _)
        case keep => exact fun u z hu hz => .inr RI
        refine xe0 ?_;refine W.ret ⟨.inr rfl, by rfl, (b + 60), (some LT), ?res, ?hi, ?hx, ?hij, ?keep⟩
        case res => simp only [Tryz.f26, resE, ay, fin, toT, jq, exb, simprocAttr, tN] <;> rfl
        case hi => (exact h4q)
        case hx => exact .inl rfl
        case hij => exact .inr (hM _)
        case keep => exact fun u z hu hz => .inr (h4k u z hu hz)
      | some LE =>
        have hLT : LT.length ≤ 1000000000000 := by have := hlen LT (by rw [hrT]); omega
        refine aA yT ?_;refine zm4 ?_;refine zm8 ?_;refine aj 2 Q7 ?_;refine bW (D := []) rfl rfl rfl rfl rfl (fun j hj => by simp at hj) (by simp) cw2 (RU (b + 60) j (fun e => cast (hjb' _) e) LT LE hLT M4 (b + 300) h4far h4q h4j) ?_;simp only [dw, eY, bS];have hand : ∀ x : Bool, (false && x) = false := fun x => rfl
        cases okT
        refine xe0 ?_;refine W.ret ⟨.inr rfl, by rfl, (b + 60), (some (LT.filter fun s => LE.contains s)), ?res, ?hi, ?hx, ?hij, ?keep⟩
        case res => simp only [Tryz.f26, resE, ay, fin, toT, jq, exb, simprocAttr, tN] <;> rfl
        case hi => (exact upd_same ..)
        case hx => exact .inl rfl
        case hij => first | exact .inl rfl | exact .inr (hM _)
        case keep => exact fun u z hu hz => .inr RI
        refine xe0 ?_;refine W.ret ⟨.inr rfl, by rfl, (b + 60), (some (LT.filter fun s => LE.contains s)), ?res, ?hi, ?hx, ?hij, ?keep⟩
        case res => simp only [Tryz.f26, resE, ay, fin, toT, jq, exb, simprocAttr, tN] <;> rfl
        case hi => (exact upd_same ..)
        case hx => exact .inl rfl
        case hij => exact .inr (hM _)
        case keep => exact fun u z hu hz => .inr ((upd_ne _ _ (fun e => by subst e; rw [hM] at hz; cases hz)).trans (h4k u z hu hz))
   have k3' : decide (k = 3) = false := by simp [k3]
   rw [if_neg k3];refine W.cond rfl (fun h => absurd h (by simp [k3])) (fun _ => ?_);refine Q8 ?_;by_cases k4 : k = 4
   ·subst k4;rw [if_pos rfl];refine jA ?_;refine zm4 ?_;have hq0 : M2 (b + 60) = none := by rw [show b + 60 = b + 20 + 40 by omega]; exact hfar 40
    have hcl := Dv (M := M2) (j := j) (q := b + 60) (o := some L) h2j hq0;obtain ⟨oT, okT, hrT⟩ : ∃ o ok, fD L th = (o, ok) := ⟨_, _, rfl⟩;have hT2 := hT L (b + 60) (upd M2 (b + 60) (some (.names (some L)))) (b + 80) (fun d => by rw [upd_ne _ _ (by omega), show b + 80 + d = b + 20 + (60 + d) by omega]; exact hfar _) (upd_same ..) (by omega);rw [hrT] at hT2;have hjn : jnM (upd M2 (b + 60) (some (.names (some L)))) (b + 60) oT = upd M2 (b + 60) (some (.names oT)) := AY hW2 hq0;simp only [hjn] at hT2;rw [hrT];have nkq : ¬ Rr.keep (b + 60) := by rw [hkeep]; exact fun h => by have h1 := h.1; rw [hM] at h1; cases h1
    cases oT with
    | none =>
      skip;refine W.lZ ah bC ⟨upd (upd (upd (upd (fun _ => .top) 2 (.ptr (b + 2) 0)) 3 (.ptr (b + 3) 0)) 12 Ec) 13 (.c (.bool okT)), upd M2 (b + 60) (some (.names none))⟩ ?_ ?_;exact zt3;intro st' hle;refine W.weaken hle ?_;clear hle st'
      repeat (first | refine W.q ?_ | refine W.region ah b (by decide) (aR abA) ?_)
      exact abn
    | some LT =>
      skip;refine W.lZ ah bC ⟨upd (upd (upd (upd (fun _ => .top) 2 (.ptr (b + 2) 0)) 3 (.ptr (b + 3) 0)) 12 (.map (b + 60))) 13 (.c (.bool okT)), upd M2 (b + 60) (some (.names (some LT)))⟩ ?_ ?_;exact zt3;intro st' hle;refine W.weaken hle ?_;clear hle st'
      repeat (first | refine W.q ?_ | refine W.region ah b (by decide) (aR abA) ?_)
      exact abn
   have k4' : decide (k = 4) = false := by simp [k4]
   rw [if_neg k4];refine W.cond rfl (fun h => absurd h (by simp [k4])) (fun _ => ?_);refine Q8 ?_;by_cases k6 : k = 6
   ·subst k6;rw [if_pos rfl];refine jA ?_;refine XY ?_;refine W.ret ⟨.inr rfl, by rfl, j, (some L), ?res, ?hi, ?hx, ?hij, ?keep⟩
    case res => simp only [Tryz.f26, resE, ay, fin, toT, jq, exb, simprocAttr] <;> rfl
    case hi => exact h2j
    case hx => exact .inr rfl
    case hij => exact .inl rfl
    case keep => exact fun u z hu hz => .inl (hk2 u z hu hz)
   rw [if_neg k6];refine W.cond rfl (fun h => absurd h (by simp [k6])) (fun _ => ?_);refine XY ?_;exact YH
theorem OM {z : Int} (h1 : -9223372036854775808 ≤ z) (h2 : z < 9223372036854775808) : IntKind.i64.wrap z = z := by
 by_cases h : 0 ≤ z
 ·obtain ⟨k, rfl⟩ := Int.eq_ofNat_of_zero_le h;exact rU (by omega)
 ·have h3 : z % 18446744073709551616 = z + 18446744073709551616 := by omega
  have h4 : (z + 18446744073709551616) ≥ 9223372036854775808 := by omega
  simp [IntKind.wrap, IntKind.bits, IntKind.signed, h3];omega
def pJ (x : Tr) : A := .tup [(false, [.sl (cBs x.1)]), (false, [.bool x.2.1]), (false, [.bool x.2.2])]
def ROk (x : Stmt) : Prop := ∀ (H : List Nm), H.length + lG x ≤ 1000000000 → ∀ m, COk Tryz.prog 48 [.c (.sl (cBs H)), .agg (aW x)] m (pJ (wK H x))
set_option maxHeartbeats 4000000 in
theorem DU (l : List Stmt) (hl : l.length ≤ 1048576) (hone : ∀ x ∈ l, ROk x) (H0 : List Nm) (hH : H0.length + dF l ≤ 1000000000) (m : Mem) : COk Tryz.prog 24 [.c (.sl (cBs H0)), .c (.sl (l.map aW))] m (pJ (eZ H0 l)) := by
 refine (aS ah Tryz.func24 (by kernel_rfl) rfl rfl (by rfl) (by rfl) (by rfl) (fun R hkeep => ?_) m);refine W.go ?_;refine W.loop (ι := Nat × List Nm) (fun i => ⟨upd (upd (upd (upd (upd (fun _ => .top) 0 (.c (.sl (cBs i.2)))) 1 (.c (.sl (l.map aW)))) 12 (.c (.sl (l.map aW)))) 13 (.c (.int .i64 l.length))) 14 (.c (.int .i64 i.1)), Mem.nil⟩)
  (fun i => i.1 ≤ l.length ∧ eZ H0 l = eZ i.2 (l.drop i.1) ∧ i.2.length + dF (l.drop i.1) ≤ 1000000000) (fun i => l.length - i.1) (0, H0) ?start ⟨Nat.zero_le _, rfl, hH⟩ ?round
 case start =>
  exact YI
 case round =>
  rintro ⟨k, H⟩ ⟨hk, hall, hlen⟩;dsimp only at hk hall hlen ⊢;refine W.go ?_;refine W.cond rfl ?_ ?_
  ·intro hlt;replace hlt := dtl hlt;obtain ⟨x, hx⟩ : ∃ x, l[k]? = some x := ⟨_, List.getElem?_eq_getElem hlt⟩;have hxm := List.mem_of_getElem? hx;have hdrop := drop_of_getElem? hx;rw [hdrop] at hall hlen;simp only [dF] at hlen;obtain ⟨H', r, ok, hs⟩ : ∃ H' r ok, wK H x = (H', r, ok) := ⟨_, _, _, rfl⟩;rw [uW H x _ hs] at hall;have hc := hone x hxm H (by omega);have hln := EM x H;rw [hs] at hc hln;simp only [pJ] at hc;have hln : H'.length ≤ H.length + lG x := hln;obtain ⟨kd, nn, ty, nm, es, th, el⟩ := x;simp only [aW, aX, bf] at hc
   repeat (first | refine W.q ?_ | refine W.g ?_ (by simp only [exb, simprocAttr, List.length_map, hlt, bA hx, aW, aX, bf]; rfl))
   refine zm1 ?_;refine aj 2 (by simp only [exb, simprocAttr, aX, bf]; rfl) ?_;refine av rfl rfl rfl rfl rfl (by simp) cw2 (hc _) ?_;refine xe0 ?_;have hw : IntKind.i64.wrap ((l.length : Int) - 1) = (l.length : Int) - 1 := OM (by omega) (by omega);cases ok with
   | false =>
     have hall : eZ H0 l = ([], false, false) := hall;exact Ti
   | true =>
     cases r with
     | false =>
       have hall : eZ H0 l = eZ H' (l.drop (k + 1)) := hall
       repeat (first | refine W.q ?_ | refine W.g ?_ VX)
       refine GR ?_;refine GR ?_;refine ⟨(k + 1, H'), ⟨hlt, hall, by dsimp only; omega⟩, by dsimp only; omega, ?_⟩;exact O9
     | true =>
       have hall : eZ H0 l = if (l.drop (k + 1)).length = 0 then ([], true, true) else ([], false, false) := hall
       rw [List.length_drop] at hall
       repeat (first | refine W.q ?_ | refine W.g ?_ (by simp only [exb, simprocAttr, List.length_map, hw, Bool.not_true]; rfl))
       refine W.cond rfl ?_ ?_
       ·intro h;simp only [decide_eq_true_eq] at h;rw [if_neg (by omega)] at hall;exact J9
       ·intro h;simp only [decide_eq_false_iff_not] at h;rw [if_pos (by omega)] at hall;exact Ti
  ·intro hge;replace hge := dnl hge;obtain rfl : k = l.length := by omega
   rw [List.drop_length] at hall;have hall : eZ H0 l = (H, false, true) := by rw [hall]; simp only [eZ]
   refine W.go ?_;refine W.rt ?_;simp only [Tryz.f24, aU, ay, toT, fin, exb, simprocAttr, hall, pJ]
def JV (l : List Stmt) : Prop := ∀ (H : List Nm), H.length + dF l ≤ 1000000000 → ∀ m, COk Tryz.prog 24 [.c (.sl (cBs H)), .c (.sl (l.map aW))] m (pJ (eZ H l))
set_option maxHeartbeats 4000000 in
theorem Mc (k nn : Int) (ty nm : ByteArray) (es : List Expr) (th el : List Stmt) (hT : JV th) (hE : JV el) (H : List Nm) (hH : H.length + dF th + dF el ≤ 1000000000) (m : Mem) :
 COk Tryz.prog 84 [.c (.sl (cBs H)), .agg (aW ⟨k, nn, ty, nm, es, th, el⟩)] m (pJ (rV (eZ H th) (eZ H el))) := by
 have hT := hT H (by omega)
 have hE := hE H (by omega)
 have l1 := kQ th H
 have l2 := kQ el H
 obtain ⟨la, ra, oka, ha⟩ : ∃ l r ok, eZ H th = (l, r, ok) := ⟨_, _, _, rfl⟩
 obtain ⟨lb, rb, okb, hb⟩ : ∃ l r ok, eZ H el = (l, r, ok) := ⟨_, _, _, rfl⟩
 rw [ha] at hT l1 ⊢
 rw [hb] at hE l2 ⊢
 simp only [pJ] at hT hE
 simp only at l1 l2
 simp only [aW, aX, bf]
 refine (aS ah Tryz.func84 (by kernel_rfl) rfl rfl (by rfl) (by rfl) (by rfl) (fun R hkeep => ?_) m)
 refine W.go ?_
 refine W.bR ah 0 (by decide) ?_
 refine xs0 3 ?_
 refine av rfl rfl rfl rfl rfl (by simp) cw2 (hT _) ?_
 refine xe0 ?_
 refine W.go ?_
 refine W.bR ah 0 (by decide) ?_
 refine xs0 3 ?_
 refine av rfl rfl rfl rfl rfl (by simp) cw2 (hE _) ?_
 refine xe0 ?_
 cases oka with
 | false =>
   skip
   repeat (first | refine W.q ?_ | refine W.g ?_ (by simp only [exb, simprocAttr, Bool.not_false]; rfl))
   exact WR
 | true =>
   cases okb with
   | false =>
     skip
     repeat (first | refine W.q ?_ | refine W.g ?_ (by simp only [exb, simprocAttr, Bool.not_false, Bool.not_true]; rfl))
     exact WR
   | true =>
     skip
     repeat (first | refine W.q ?_ | refine W.g ?_ VX)
     refine W.cf rfl ?_;cases ra with
     | false =>
       skip;refine W.go ?_;refine GR ?_;refine GR ?_;cases rb with
       | false =>
         skip;refine GR ?_;refine zm1 ?_;refine xs0 2 ?_;refine av rfl rfl rfl rfl rfl (by simp) cw2 (RF la lb (by omega) (by omega) _) ?_;refine xe0 ?_;exact W.ret ⟨.inr rfl, by rfl, abJ⟩
       | true =>
         skip;exact Jv
     | true =>
       skip;refine W.go ?_;cases rb with
       | false =>
         skip;refine GR ?_;exact Jv
       | true =>
         skip;exact WR
set_option maxHeartbeats 8000000 in
theorem R5 (k nn : Int) (ty nm : ByteArray) (es : List Expr) (th el : List Stmt) (hS : SmS ⟨k, nn, ty, nm, es, th, el⟩) (hT : JV th) (hE : JV el) : ROk ⟨k, nn, ty, nm, es, th, el⟩ := by
 intro H hH m;simp only [lG] at hH;simp only [SmS] at hS;obtain ⟨s1, s2, -⟩ := hS;have hbr := fun m => Mc k nn ty nm es th el hT hE H (by omega) m
 have hT := hT H (by omega);have hall := NW H k es;have l1 := kQ th H;simp only [aW, aX, bf] at hbr ⊢;refine (aS ah Tryz.func48 (by kernel_rfl) rfl rfl (by rfl) (by rfl) (by rfl) (fun R hkeep => ?_) m);refine W.go ?_;refine W.loop (ι := Nat) (fun i => ⟨upd (upd (upd (upd (upd (fun _ => .top) 0 (.c (.sl (cBs H)))) 3 (.ptr 3 0)) 13 (.c (.sl (es.map cExpr)))) 14 (.c (.int .i64 es.length))) 15 (.c (.int .i64 i)), upd Mem.nil 3 (some (O.box 37 [.c (.int .i64 k), .c (.int .i64 nn), .c (.str ty), .c (.str nm), .c (.sl (es.map cExpr)), .c (.sl (th.map aW)), .c (.sl (el.map aW))]))⟩)
  (fun i => i ≤ es.length ∧ ∀ i' x, i' < i → es[i']? = some x → ow H k i' x = true) (fun i => es.length - i) 0 ?start ⟨Nat.zero_le _, fun i' x h => by omega⟩ ?round
 case start =>
  exact YI
 case round =>
  rintro i ⟨hi, hpre⟩;refine W.go ?_;refine W.cond rfl ?_ ?_
  ·intro hlt;replace hlt := dtl hlt;obtain ⟨x, hx⟩ : ∃ x, es[i]? = some x := ⟨_, List.getElem?_eq_getElem hlt⟩;have hxm := List.mem_of_getElem? hx;have hsx := s2.mem hxm;obtain ⟨xk, xn, xm, xs⟩ := x;have hak := fun m => Fz _ ⟨xk, xn, xm, xs⟩ (Nat.le_refl _) hsx H (by omega) m
   have hak2 := fun m => Fz _ ⟨0, 0, ⟨#[]⟩, xs⟩ (Nat.le_refl _) (by simp only [SmE] at hsx ⊢; exact hsx) H (by omega) m
   simp only [cExpr, aX] at hak hak2
   repeat (first | refine W.q ?_ | refine W.g ?_ (by simp only [exb, simprocAttr, List.length_map, hlt, bA hx, cExpr, aX]; rfl))
   refine W.R7 ⟨upd (upd (upd (upd (upd (upd (upd (fun _ => .top) 0 (.c (.sl (cBs H)))) 3 (.ptr 3 0)) 13 (.c (.sl (es.map cExpr)))) 14 (.c (.int .i64 es.length))) 15 (.c (.int .i64 i))) 8 (.ptr 8 0)) 31 (.c (.bool (decide (k = 2) && decide (i = 0) && decide (xk = 4)))), upd (upd Mem.nil 3 (some (O.box 37 [.c (.int .i64 k), .c (.int .i64 nn), .c (.str ty), .c (.str nm), .c (.sl (es.map cExpr)), .c (.sl (th.map aW)), .c (.sl (el.map aW))]))) 8 (some (.box 35 [.c (.int .i64 xk), .c (.int .i64 xn), .c (.str xm), .c (.sl (xs.map cExpr))]))⟩ ?g ?rest
   case g =>
    by_cases h2 : k = 2
    ·subst h2;by_cases h0 : i = 0
     ·subst h0
      repeat (first | refine W.q ?_ | refine W.g ?_ (by simp only [exb, simprocAttr, decide_true, Bool.true_and, Int.ofNat_zero, Int.cast_ofNat_Int]; rfl))
      refine ⟨rfl, ?_⟩;simp only [decide_true, Bool.true_and]
      (refine iM ?sle ?mle (aQ hkeep)
       case sle => repeat (first | exact aM _ | exact aH _ | refine aL ?_ tH)
       case mle => repeat (first | exact aV _ | exact aF _ | refine aT ?_ u7))
     ·have h0' : decide ((i : Int) = 0) = false := by simp; omega
      have h0'' : decide (i = 0) = false := by simp [h0]
      repeat (first | refine W.q ?_ | refine W.g ?_ (by simp only [exb, simprocAttr, decide_true, Bool.true_and, h0']; rfl))
      refine ⟨rfl, ?_⟩;simp only [h0'', Bool.and_false, Bool.false_and]
      (refine iM ?sle ?mle (aQ hkeep)
       case sle => repeat (first | exact aM _ | exact aH _ | refine aL ?_ tH)
       case mle => repeat (first | exact aV _ | exact aF _ | refine aT ?_ u7))
    ·have h2' : decide (k = 2) = false := by simp [h2]
     repeat (first | refine W.q ?_ | refine W.g ?_ (by simp only [exb, simprocAttr, h2']; rfl))
     refine ⟨rfl, ?_⟩;simp only [h2', Bool.false_and]
     (refine iM ?sle ?mle (aQ hkeep)
      case sle => repeat (first | exact aM _ | exact aH _ | refine aL ?_ tH)
      case mle => repeat (first | exact aV _ | exact aF _ | refine aT ?_ u7))
   case rest =>
    cases hb : (decide (k = 2) && decide (i = 0) && decide (xk = 4)) with
    | true =>
      have hat : ow H k i ⟨xk, xn, xm, xs⟩ = kC H ⟨0, 0, ⟨#[]⟩, xs⟩ := by
       unfold ow;rw [if_pos hb, y9]; rfl
      refine jA ?_;refine W.go ?_;refine zm1 ?_;refine xs0 2 ?_;refine av rfl rfl rfl rfl rfl (by simp) cw2 (hak2 _) ?_;cases hb2 : kC H ⟨0, 0, ⟨#[]⟩, xs⟩ with
      | false =>
        exact WW
      | true =>
        exact Zl
    | false =>
      have hat : ow H k i ⟨xk, xn, xm, xs⟩ = kC H ⟨xk, xn, xm, xs⟩ := by
       unfold ow;rw [if_neg (by rw [hb]; decide)]
      refine GR ?_;refine zm1 ?_;refine xs0 2 ?_;refine av rfl rfl rfl rfl rfl (by simp) cw2 (hak _) ?_;cases hb2 : kC H ⟨xk, xn, xm, xs⟩ with
      | false =>
        exact WW
      | true =>
        exact Zl
  ·intro hge;replace hge := dnl hge;obtain rfl : i = es.length := by omega
   have hask : gL H (jh k es) = true := hall.2 fun i' x hx => hpre i' x (List.getElem?_eq_some_iff.1 hx).1 hx
   have hst : wK H ⟨k, nn, ty, nm, es, th, el⟩ = if k = 1 then (if es.isEmpty = true then iE (bs nm) H else iE (bs nm) H ++ [bs nm], false, true)
    else if k = 2 then (if ownB k es = true then iE (yI es) H ++ [yI es] else H, false, true)
    else if k = 3 then rV (eZ H th) (eZ H el)
    else if k = 4 then (H, false, (eZ H th).2.2)
    else if k = 6 then ([], true, true)
    else (H, false, true) := by simp only [wK]; rw [hask]; rfl
   rw [hst];refine W.go ?_;by_cases k1 : k = 1
   ·subst k1;rw [if_pos rfl];refine jA ?_;refine zm4 ?_;have hde : ∀ s, (iE s H).length ≤ H.length := fun s => List.length_filter_le (fun t => t != s) H
    refine zm1 ?_;refine xs0 3 ?_;refine bW (D := []) rfl rfl rfl rfl rfl (fun j hj => by simp at hj) (by simp) cw2 (jR H (by omega) nm _ 60 rfl) ?_;simp only [dw, eY, bS];refine xe0 ?_;cases es with
    | nil =>
      skip
      repeat (first | refine W.q ?_ | refine W.g ?_ UM)
      refine GR ?_;refine W.asData 4 (x := .sl (cBs (iE (bs nm) H))) rfl ?_ (by decide);refine W.rt ?_;simp only [Tryz.f48, aU, ay, toT, fin, exb, simprocAttr, pJ, List.isEmpty]
    | cons x tl =>
      have hpos : (0 : Int) < ((tl.length + 1 : Nat) : Int) := by omega
      skip
      repeat (first | refine W.q ?_ | refine W.g ?_ (by simp only [exb, simprocAttr, List.map_cons, List.length_cons, List.length_map, hpos, decide_true]; rfl))
      refine jA ?_;refine zm1 ?_;refine xs0 4 ?_;refine cK ah 60 rfl rfl rfl rfl rfl rfl rfl rfl nR rfl rfl rfl rfl (cu hkeep) (by simp) (by have := hde (bs nm); simp only [List.length_map, List.length_cons, List.length_nil]; omega) (by decide) ?_;refine mU ?_;refine W.asData 4 (x := .sl (cBs (iE (bs nm) H ++ [bs nm]))) (by simp only [exb, simprocAttr, List.map_append, List.map_cons, List.map_nil, cB]; rfl) ?_ (by decide);refine W.rt ?_;simp only [Tryz.f48, aU, ay, toT, fin, exb, simprocAttr, pJ, List.isEmpty] <;> rfl
   have k1' : decide (k = 1) = false := by simp [k1]
   rw [if_neg k1];refine W.cond rfl (fun h => absurd h (by simp [k1])) (fun _ => ?_);refine W.go ?_;by_cases k2 : k = 2
   ·subst k2;rw [if_pos rfl];refine jA ?_;refine zm4 ?_;cases es with
    | nil =>
      skip
      repeat (first | refine W.q ?_ | refine W.g ?_ UM)
      refine W.cf rfl ?_;exact VR
    | cons x tl =>
      obtain ⟨xk, xn, xm, xs⟩ := x;have hpos : (0 : Int) < ((tl.length + 1 : Nat) : Int) := by omega
      repeat (first | refine W.q ?_ | refine W.g ?_ (by simp only [exb, simprocAttr, List.map_cons, List.length_cons, List.length_map, hpos, decide_true, cExpr, aX]; rfl))
      by_cases k4 : xk = 4
      ·subst k4;have ho : ownB 2 (⟨4, xn, xm, xs⟩ :: tl) = true := rfl;rw [ho];refine jA ?_;have hde : (iE (bs xm) H).length ≤ H.length := List.length_filter_le (fun t => t != bs xm) H;refine W.lZ ah bC ⟨upd (fun _ => .top) 0 (.own 60), upd Mem.nil 60 (some (.arr 9 1 (cBs (iE (bs xm) H ++ [bs xm]))))⟩ ?_ ?_
       ·skip;refine vS (base := 0) ah (by decide) aK 7 rfl rfl dz rfl rfl aK aK ⟨_, fA, ?_⟩;refine sQ (base := 0) ah (by decide) ?_;refine aN 0 aK ⟨_, fA, ?_⟩;refine aN 1 aK ⟨_, fA, ?_⟩;refine aN 2 aK ⟨_, fA, ?_⟩;refine aN 3 aK ⟨_, Zm, ?_⟩;refine aN 4 aK ⟨_, fA, ?_⟩;refine aN 5 aK ⟨_, fA, ?_⟩;refine bY [6, 8] aK (by decide) ?_;refine iN (D := []) rfl rfl rfl rfl rfl rfl rfl (fun u hu => by simp at hu) (by simp) cw2 (jR H (by omega) xm _ 60 rfl) ?_ ?_;simp only [dw, bS];refine aN 8 aK ⟨_, fA, ?_⟩;refine aa9 ?_;refine RY ?_;refine step_append ah rfl 60 true rfl rfl rfl rfl rfl rfl fE dz dz rfl rfl rfl rfl (cu hkeep) (by simp) xq (by decide) ?_ ?_;refine En ?_;simp only [List.map_append, List.map_cons, List.map_nil, cB, dW]
        (refine iM ?sle ?mle (aQ hkeep)
         case sle => repeat (first | exact aM _ | exact aH _ | refine aL ?_ tH)
         case mle => repeat (first | exact aV _ | exact aF _ | refine aT ?_ u7))
        exact mQ;refine fH ⟨_, fA, ?_⟩ trivial;refine bY [6, 9] aK (by decide) ?_;refine iN (D := []) rfl rfl rfl rfl rfl rfl rfl (fun u hu => by simp at hu) (by simp) cw2 (jR H (by omega) xm _ 60 rfl) ?_ ?_;simp only [dw, bS];refine aa9 ?_;refine RY ?_;refine step_append ah rfl 60 true rfl rfl rfl rfl rfl rfl fE dz dz rfl rfl rfl rfl (cu hkeep) (by simp) xq (by decide) ?_ ?_;refine En ?_;simp only [List.map_append, List.map_cons, List.map_nil, cB, dW]
        (refine iM ?sle ?mle (aQ hkeep)
         case sle => repeat (first | exact aM _ | exact aH _ | refine aL ?_ tH)
         case mle => repeat (first | exact aV _ | exact aF _ | refine aT ?_ u7))
        exact mQ;refine fH ⟨_, Zm, ?_⟩ trivial;refine bY [6, 10] aK (by decide) ?_;refine iN (D := []) rfl rfl rfl rfl rfl rfl rfl (fun u hu => by simp at hu) (by simp) cw2 (jR H (by omega) xm _ 60 rfl) ?_ ?_;simp only [dw, bS];refine aN 10 aK ⟨_, fA, ?_⟩;refine RY ?_;refine step_append ah rfl 60 true rfl rfl rfl rfl rfl rfl fE dz dz rfl rfl rfl rfl (cu hkeep) (by simp) xq (by decide) ?_ ?_;refine En ?_;simp only [List.map_append, List.map_cons, List.map_nil, cB, dW]
        (refine iM ?sle ?mle (aQ hkeep)
         case sle => repeat (first | exact aM _ | exact aH _ | refine aL ?_ tH)
         case mle => repeat (first | exact aV _ | exact aF _ | refine aT ?_ u7))
        exact mQ;refine fH ⟨_, fA, ?_⟩ trivial;refine bY [6, 11] aK (by decide) ?_;refine iN (D := []) rfl rfl rfl rfl rfl rfl rfl (fun u hu => by simp at hu) (by simp) cw2 (jR H (by omega) xm _ 60 rfl) ?_ ?_;simp only [dw, bS];refine RY ?_;refine step_append ah rfl 60 true rfl rfl rfl rfl rfl rfl fE dz dz rfl rfl rfl rfl (cu hkeep) (by simp) xq (by decide) ?_ ?_;refine En ?_;simp only [List.map_append, List.map_cons, List.map_nil, cB, dW]
        (refine iM ?sle ?mle (aQ hkeep)
         case sle => repeat (first | exact aM _ | exact aH _ | refine aL ?_ tH)
         case mle => repeat (first | exact aV _ | exact aF _ | refine aT ?_ u7))
        exact mQ;refine fH ⟨_, fA, ?_⟩ trivial;refine bY [6, 12] aK (by decide) ?_;refine iN (D := []) rfl rfl rfl rfl rfl rfl rfl (fun u hu => by simp at hu) (by simp) cw2 (jR H (by omega) xm _ 60 rfl) ?_ ?_;simp only [dw, bS];refine aN 12 aK ⟨_, fA, ?_⟩;refine bY [13] aK (by decide) ?_;refine step_append ah rfl 60 true rfl rfl rfl rfl rfl rfl fE dz dz rfl rfl rfl rfl (cu hkeep) (by simp) xq (by decide) ?_ ?_;refine En ?_;simp only [List.map_append, List.map_cons, List.map_nil, cB, dW]
        (refine iM ?sle ?mle (aQ hkeep)
         case sle => repeat (first | exact aM _ | exact aH _ | refine aL ?_ tH)
         case mle => repeat (first | exact aV _ | exact aF _ | refine aT ?_ u7))
        exact mQ;refine fH ⟨_, fA, ?_⟩ trivial;refine LZ ?_;refine iN (D := []) rfl rfl rfl rfl rfl rfl rfl (fun u hu => by simp at hu) (by simp) cw2 (jR H (by omega) xm _ 60 rfl) ?_ ?_;simp only [dw, bS];refine bY [13] aK (by decide) ?_;refine step_append ah rfl 60 true rfl rfl rfl rfl rfl rfl fE dz dz rfl rfl rfl rfl (cu hkeep) (by simp) xq (by decide) ?_ ?_;refine En ?_;simp only [List.map_append, List.map_cons, List.map_nil, cB, dW]
        (refine iM ?sle ?mle (aQ hkeep)
         case sle => repeat (first | exact aM _ | exact aH _ | refine aL ?_ tH)
         case mle => repeat (first | exact aV _ | exact aF _ | refine aT ?_ u7))
        exact mQ;exact mQ
       intro st' hle;refine W.weaken hle ?_;clear hle st';refine W.go ?_;refine W.asData 4 (x := .sl (cBs (iE (bs xm) H ++ [bs xm]))) rfl ?_ (by decide);exact W.ret ⟨.inr rfl, by rfl, Y3⟩
      ·have ho : ownB 2 (⟨xk, xn, xm, xs⟩ :: tl) = false := by simp [ownB, k4]
       rw [ho];refine W.cond rfl (fun h => absurd h (by simp [k4])) (fun _ => ?_);exact VR
   rw [if_neg k2];refine W.cond rfl (fun h => absurd h (by simp [k2])) (fun _ => ?_);refine W.go ?_;by_cases k3 : k = 3
   ·subst k3;rw [if_pos rfl];refine jA ?_;refine zm4 ?_;simp only [pJ] at hbr;refine zm1 ?_;refine xs0 2 ?_;refine av rfl rfl rfl rfl rfl (by simp) cw2 (hbr _) ?_;refine xe0 ?_;exact W.ret ⟨.inr rfl, by rfl, aaL⟩
   rw [if_neg k3];refine W.cond rfl (fun h => absurd h (by simp [k3])) (fun _ => ?_);refine W.go ?_;by_cases k4 : k = 4
   ·subst k4;rw [if_pos rfl];refine jA ?_;refine zm4 ?_;simp only [pJ] at hT;refine zm1 ?_;refine xs0 3 ?_;refine av rfl rfl rfl rfl rfl (by simp) cw2 (hT _) ?_;refine xe0 ?_;exact CF
   rw [if_neg k4];refine W.cond rfl (fun h => absurd h (by simp [k4])) (fun _ => ?_);refine W.go ?_;by_cases k6 : k = 6
   ·subst k6;rw [if_pos rfl];refine jA ?_;refine W.go ?_;refine W.rt ?_;simp only [Tryz.f48, aU, ay, toT, fin, exb, simprocAttr, pJ, List.map_nil]
   rw [if_neg k6];refine W.cond rfl (fun h => absurd h (by simp [k6])) (fun _ => ?_);exact CF
theorem X6 (a : Nm) (s : ByteArray) : Op.bytesLess (⟨a.toArray⟩ : ByteArray).toList s.toList = decide (a < bs s) := by rw [sF, sF, AZ, bytesLess_eq]
theorem JU {s : Nm} : ∀ {L : List Nm}, L.Pairwise (· < ·) → L.contains s = true → fQ s L = L
 | [], _, h => by simp at h
 | t :: l, hp, h => by
   unfold fQ;rw [List.pairwise_cons] at hp;rw [List.contains_cons, Bool.or_eq_true, beq_iff_eq] at h;split
   ·rfl
   ·rename_i hne;have hm : l.contains s = true := h.resolve_left hne;have hts := hp.1 s (by simpa using hm);rw [if_neg (fun q => List.lt_irrefl _ (List.lt_trans q hts)), JU hp.2 hm]
theorem DR {s : Nm} : ∀ {L : List Nm} (a : Nat), L.contains s = false → a ≤ L.length → (∀ j x, j < a → L[j]? = some x → x < s) → (∀ x, L[a]? = some x → ¬ x < s) → fQ s L = L.take a ++ [s] ++ L.drop a
 | [], a, _, h, _, _ => by
   obtain rfl : a = 0 := by simpa using h
   rfl
 | t :: l, 0, hc, _, _, h2 => by
   unfold fQ;rw [List.contains_cons, Bool.or_eq_false_iff, beq_eq_false_iff_ne] at hc;have := h2 t rfl;rw [if_neg hc.1, if_pos (Classical.byContradiction fun q => by
    rcases List.le_total t s with h | h
    ·rcases Classical.em (t < s) with k | k
     ·exact this k
     ·exact hc.1 (List.le_antisymm (List.not_lt.1 k) h)
    ·rcases Classical.em (s < t) with k | k
     ·exact q k
     ·exact hc.1 (List.le_antisymm h (List.not_lt.1 k)))]
   rfl
 | t :: l, a + 1, hc, hl, h1, h2 => by
   unfold fQ;rw [List.contains_cons, Bool.or_eq_false_iff, beq_eq_false_iff_ne] at hc;have ht := h1 0 t (by omega) rfl;rw [if_neg hc.1, if_neg (fun q => List.lt_irrefl _ (List.lt_trans q ht)), DR a hc.2 yF (fun j x hj hx => h1 (j + 1) x (by omega) oD) (fun x hx => h2 x oD)];rfl
theorem wP {s : Nm} : ∀ {L : List Nm}, L.Pairwise (· < ·) → (fQ s L).Pairwise (· < ·)
 | [], _ => by simp [fQ]
 | t :: l, hp => by
   have hp' := hp;rw [List.pairwise_cons] at hp;unfold fQ;split
   ·exact hp'
   ·rename_i hne;split
    ·rename_i hlt;rw [List.pairwise_cons];refine ⟨fun x hx => ?_, hp'⟩;rcases List.mem_cons.1 hx with rfl | hx
     ·exact hlt
     ·exact List.lt_trans hlt (hp.1 x hx)
    ·rename_i hlt;rw [List.pairwise_cons];refine ⟨fun x hx => ?_, wP hp.2⟩;rcases mW.1 hx with rfl | hx
     ·rcases Classical.em (t < x) with k | k
      ·exact k
      ·exact absurd (List.le_antisymm (List.not_lt.1 k) (List.not_lt.1 hlt)) hne
     ·exact hp.1 x hx
theorem nX : ∀ (l : List Nm) (L : List Nm) (s : Nm), fT L (l ++ [s]) = fQ s (fT L l)
 | [], L, s => rfl
 | x :: l, L, s => nX l (fQ x L) s
theorem pE : ∀ (l : List Nm) {L : List Nm}, L.Pairwise (· < ·) → (fT L l).Pairwise (· < ·)
 | [], _, h => h
 | x :: l, _, h => pE l (wP h)
theorem zF {x : Nm} : ∀ {l L : List Nm}, x ∈ fT L l ↔ x ∈ L ∨ x ∈ l
 | [], L => by simp [fT]
 | y :: l, L => by
   show x ∈ fT (fQ y L) l ↔ _;rw [zF, mW, List.mem_cons];constructor
   ·rintro ((h | h) | h)
    ·exact .inr (.inl h)
    ·exact .inl h
    ·exact .inr (.inr h)
   ·rintro (h | h | h)
    ·exact .inl (.inr h)
    ·exact .inl (.inl h)
    ·exact .inr h
theorem qm : ∀ (l L : List Nm), (fT L l).length ≤ L.length + l.length
 | [], L => by simp [fT]
 | x :: l, L => by
   have h1 := qm l (fQ x L);have : ∀ L : List Nm, (fQ x L).length ≤ L.length + 1 := fun L => by
    induction L with
    | nil => simp [fQ]
    | cons t l ih =>
      unfold fQ;split
      ·simp
      ·split
       ·simp
       ·exact SN
   have h2 := this L;show (fT (fQ x L) l).length ≤ _;exact SN
theorem take_len {α : Type} (l : List α) : l.take l.length = l := List.take_length
set_option maxHeartbeats 8000000 in
theorem CZ (l : List Nm) (hl : l.length ≤ 1000000000) (m : Mem) : COk Tryz.prog 25 [.c (.sl (cBs l))] m (.c (.sl (cBs (fT [] l)))) := by
 refine (aS ah Tryz.func25 (by kernel_rfl) rfl rfl (by rfl) (by rfl) (by rfl) (fun R hkeep => ?_) m);refine W.go ?_;refine W.asData 3 (x := .sl []) rfl ?_ (by decide);refine W.loop (ι := Nat) (fun k => ⟨upd (upd (upd (upd (fun _ => .top) 3 (.c (.sl (cBs (fT [] (l.take k)))))) 7 (.c (.sl (cBs l)))) 8 (.c (.int .i64 l.length))) 9 (.c (.int .i64 k)), Mem.nil⟩)
  (fun k => k ≤ l.length) (fun k => l.length - k) 0 ?start (Nat.zero_le _) ?round
 case start =>
  refine iM ?sle ?mle (aQ hkeep)
  case mle => repeat (first | exact aV _ | exact aF _ | refine aT ?_ (by first | rfl | (simp only [ak, aB, Nat.reduceEqDiff, reduceIte, List.length_map, List.take_zero, fT, List.map_nil]; done)))
  case sle => repeat (first | exact aM _ | exact aH _ | refine aL ?_ (by first | rfl | (simp only [ak, aD, aC, Nat.reduceEqDiff, reduceIte, List.length_map, List.take_zero, fT, List.map_nil]; done)))
 case round =>
  intro k hk;refine W.go ?_;refine W.cond rfl ?_ ?_
  ·intro hlt;replace hlt := dtl hlt;obtain ⟨x, hx⟩ : ∃ x, l[k]? = some x := ⟨_, List.getElem?_eq_getElem hlt⟩;have htk : fT [] (l.take (k + 1)) = fQ x (fT [] (l.take k)) := by rw [List.take_add_one, hx]; exact nX _ _ _
   have hsrt := pE (l.take k) (L := []) List.Pairwise.nil;have hlen := qm (l.take k) [];rw [List.length_take, List.length_nil] at hlen;obtain ⟨out, ho⟩ : ∃ o, o = fT [] (l.take k) := ⟨_, rfl⟩;rw [← ho] at htk hsrt hlen ⊢;have hol : out.length ≤ 1000000000 := by omega
   have hhx := Il out (by omega) ⟨x.toArray⟩;rw [AZ] at hhx
   repeat (first | refine W.q ?_ | refine W.g ?_ Qw)
   refine zm1 ?_;refine acr ?_;refine W.cond rfl ?_ ?_
   ·intro hc;refine W.go ?_;refine Je ?_;rw [htk, JU hsrt hc];exact O9
   ·intro hc;refine W.go ?_;refine W.loop (ι := Nat) (fun a => ⟨upd (upd (upd (upd (upd (upd (fun _ => .top) 3 (.c (.sl (cBs out)))) 7 (.c (.sl (cBs l)))) 8 (.c (.int .i64 l.length))) 9 (.c (.int .i64 k))) 5 (.c (.str ⟨x.toArray⟩))) 6 (.c (.int .i64 a)), Mem.nil⟩)
     (fun a => a ≤ out.length ∧ ∀ j y, j < a → out[j]? = some y → y < x) (fun a => out.length - a) 0 ?start2 ⟨Nat.zero_le _, fun j y h => by omega⟩ ?round2
    case start2 =>
     exact Ae
    case round2 =>
     rintro a ⟨ha, hpre⟩;by_cases hal : a < out.length
     ·obtain ⟨y, hy⟩ : ∃ y, out[a]? = some y := ⟨_, List.getElem?_eq_getElem hal⟩;have hd : decide ((a : Int) < (out.length : Int)) = true := by simp; omega
      repeat (first | refine W.q ?_ | refine W.g ?_ (by simp only [exb, simprocAttr, List.length_map, hd, hal, bA hy, cB, X6, AZ]; rfl))
      refine W.cond rfl ?_ ?_
      ·intro hyx;simp only [decide_eq_true_eq] at hyx;refine W.go ?_;refine ⟨a + 1, ⟨hal, fun j z hj hz => ?_⟩, by omega, ?_⟩
       ·rcases Nat.lt_succ_iff_lt_or_eq.1 hj with h | rfl
        ·exact hpre j z h hz
        ·rw [hy] at hz; cases hz; exact hyx
       refine iM ?sle ?mle (aQ hkeep)
       case mle => repeat (first | exact aV _ | exact aF _ | refine aT ?_ (by first | rfl | (simp only [ak, aB, Nat.reduceEqDiff, reduceIte, aP (show a + 1 < 9223372036854775808 by omega)]; done)))
       case sle => repeat (first | exact aM _ | exact aH _ | refine aL ?_ (by first | rfl | (simp only [ak, aD, aC, Nat.reduceEqDiff, reduceIte, aP (show a + 1 < 9223372036854775808 by omega)]; done)))
      ·intro hyx;simp only [decide_eq_false_iff_not] at hyx;have hins : fQ x out = out.take a ++ [x] ++ out.drop a := DR a hc ha hpre (fun z hz => by rw [hy] at hz; cases hz; exact hyx);exact zt1
     ·have hins : fQ x out = out.take a ++ [x] ++ out.drop a := DR a hc ha hpre (fun z hz => by rw [List.getElem?_eq_none (by omega)] at hz; cases hz);have hd : decide ((a : Int) < (out.length : Int)) = false := by simp; omega
      repeat (first | refine W.q ?_ | refine W.g ?_ FE)
      refine W.cf rfl ?_;exact zt1
  ·intro hge;replace hge := dnl hge;obtain rfl : k = l.length := by omega
   rw [List.take_length];refine W.go ?_;refine W.rt ?_;simp only [Tryz.f25, aU, ay, toT, fin, exb, simprocAttr]
theorem Bb (s : Nm) : ∀ L : List Nm, (fQ s L).length ≤ L.length + 1
 | [] => by simp [fQ]
 | t :: l => by
   unfold fQ;split
   ·simp
   ·split
    ·simp
    ·have := Bb s l;exact SN
theorem FT (s : Nm) (L : List Nm) : (iE s L).length ≤ L.length := List.length_filter_le _ _
mutual
theorem Cy : ∀ (x : Stmt) (L L' : List Nm), (jH L x).1 = some L' → L'.length ≤ L.length + lG x
 | ⟨k, n, ty, nm, es, th, el⟩, L, L', h => by
   have h1 := qP th L;have h2 := qP el L;simp only [jH] at h;simp only [lG];split at h
   ·cases h
   split at h
   ·cases h
    split
    ·have := FT (bs nm) L; omega
    ·have := FT (bs nm) L; have := Bb (bs nm) (iE (bs nm) L); omega
   split at h
   ·cases h
    split
    ·have := Bb (yI es) L; omega
    ·omega
   split at h
   ·cases ha : (fD L th).1 with
    | none =>
      rw [ha] at h;have h : (fD L el).1 = some L' := h;have := h2 L' h;omega
    | some LA =>
      have := h1 LA ha;cases hb : (fD L el).1 with
      | none =>
        rw [ha, hb] at h;cases h; omega
      | some LB =>
        rw [ha, hb] at h;cases h
        have := List.length_filter_le (fun s => LB.contains s) LA;omega
   split at h
   ·cases h; omega
   split at h
   ·cases h
   ·cases h; omega
theorem qP : ∀ (l : List Stmt) (L L' : List Nm), (fD L l).1 = some L' → L'.length ≤ L.length + dF l
 | [], L, L', h => by
   simp only [fD] at h;cases h
   simp only [dF]; omega
 | x :: l, L, L', h => by
   obtain ⟨o, ok, hs⟩ : ∃ o ok, jH L x = (o, ok) := ⟨_, _, rfl⟩;have h1 := Cy x L;rw [sK L x l hs] at h;rw [hs] at h1;simp only [dF];cases ok with
   | false => cases h
   | true =>
     rw [if_pos rfl] at h;cases o with
     | none => cases l <;> cases h
     | some L1 =>
       have := h1 L1 rfl;have := qP l L1 L' h;omega
end
theorem BS {x : Stmt} {l : List Stmt} (h : x ∈ l) : SizeOf.sizeOf x < SizeOf.sizeOf l := List.sizeOf_lt_of_mem h
theorem Ng : ∀ (n : Nat) (x : Stmt), SizeOf.sizeOf x ≤ n → SmS x → OZ x := by
 intro n;induction n using Nat.strongRecOn with
 | ind n ih =>
 rintro ⟨k, nn, ty, nm, es, th, el⟩ hn hS;have hsz := Stmt.mk.sizeOf_spec k nn ty nm es th el;have hS' := hS;simp only [SmS] at hS';obtain ⟨s1, s2, s3, s4, s5, s6⟩ := hS';intro L j M b hM hj hL;refine ⟨fun L' h => Cy _ L L' h, ?_⟩;simp only [lG] at hL;exact Sd k nn ty nm es th el hS
  (fun L j M b hM hj hL => IV th s3 (fun x hx => ih (SizeOf.sizeOf x) Kq x (Nat.le_refl _) (s4.mem hx)) L j M b hM hj hL)
  (fun L j M b hM hj hL => IV el s5 (fun x hx => ih (SizeOf.sizeOf x) Kq x (Nat.le_refl _) (s6.mem hx)) L j M b hM hj hL)
  L (fun LT h => qP th L LT h) j M b hM hj (by omega)
theorem Xk (l : List Stmt) (hl : l.length ≤ 1048576) (hS : vV l) (L : List Nm) (j : Nat) (M : Mem) (b : Nat) (hM : ∀ d, M (b + d) = none) (hj : M j = some (.names (some L))) (hL : L.length + dF l ≤ 1000000000000) :
 dJ Tryz.prog 12 [.map j, .c (.sl (l.map aW))] M [j] (jq (fD L l).1 (fD L l).2 j) (jnM M j (fD L l).1) :=
 IV l hl (fun x hx => Ng _ x (Nat.le_refl _) (hS.mem hx)) L j M b hM hj hL
end V
end Go.Proofs.YtgaipdillmleeaaGreat
end
section
namespace Go.Proofs.YtgaipdillmleeaaGreat
namespace AS
open V
def jC (L H : List Nm) : Prop := ∀ s, s ∈ L ↔ s ∈ H
theorem jC.has {L H : List Nm} (h : jC L H) (s : Nm) : L.contains s = H.contains s := by
 rw [Bool.eq_iff_iff]; simpa using h s
mutual
theorem L8 {L H : List Nm} (h : jC L H) : ∀ x : Expr, kC L x = kC H x
 | ⟨k, n, nm, kids⟩ => by
   simp only [kC];rw [uh h kids]; unfold hasB; rw [h.has]
theorem uh {L H : List Nm} (h : jC L H) : ∀ l : List Expr, gL L l = gL H l
 | [] => rfl
 | x :: l => by simp only [gL]; rw [L8 h x, uh h l]
end
theorem jC.ins {L H : List Nm} (h : jC L H) (s : Nm) : jC (fQ s L) (iE s H ++ [s]) := fun t => by
 rw [mW, List.mem_append, ng, List.mem_singleton, h t];constructor
 ·rintro (e | e)
  ·exact .inr e
  ·rcases Classical.em (t = s) with q | q
   ·exact .inr q
   ·exact .inl ⟨e, q⟩
 ·rintro (⟨e, -⟩ | e)
  ·exact .inr e
  ·exact .inl e
theorem jC.del {L H : List Nm} (h : jC L H) (s : Nm) : jC (iE s L) (iE s H) := fun t => by rw [ng, ng, h t]
theorem jC.X5 {L H : List Nm} (h : jC L H) (s : Nm) : jC (fQ s (iE s L)) (iE s H ++ [s]) := fun t => by
 rw [mW, List.mem_append, ng, ng, List.mem_singleton, h t];exact Or.comm
theorem jC.meet {L H A B : List Nm} (h : jC L A) (k : jC H B) : jC (L.filter fun s => H.contains s) (A.filter fun s => B.contains s) := fun t => by
 rw [List.mem_filter, List.mem_filter, h t, k.has]
structure Fit (a : Option (List Nm) × Bool) (b : Tr) : Prop where
 ok : a.2 = b.2.2
 ret : b.2.2 = true → (b.2.1 = true ↔ a.1 = none)
 same : b.2.2 = true → ∀ L, a.1 = some L → jC L b.1
 nil : b.2.1 = true → b.1 = []
theorem Fit.bad {o : Option (List Nm)} : Fit (o, false) ([], false, false) := ⟨rfl, fun h => (Bool.noConfusion h), fun h => (Bool.noConfusion h), fun _ => rfl⟩
theorem Fit.some {L H : List Nm} (h : jC L H) : Fit (.some L, true) (H, false, true) := ⟨rfl, fun _ => ⟨fun q => Bool.noConfusion q, fun q => by cases q⟩, fun _ L' e => by cases e; exact h, fun q => Bool.noConfusion q⟩
mutual
theorem ME : ∀ (x : Stmt) {L H : List Nm}, jC L H → Fit (jH L x) (wK H x)
 | ⟨k, n, ty, nm, es, th, el⟩, L, H, h => by
   have h1 := ze th h;have h2 := ze el h;simp only [jH, wK];rw [uh h];split
   ·exact .bad
   split
   ·split
    ·exact .some (h.del _)
    ·exact .some (h.X5 _)
   split
   ·split
    ·exact .some (h.ins _)
    ·exact .some h
   split
   ·obtain ⟨oa, ka, ha⟩ : ∃ o k, fD L th = (o, k) := ⟨_, _, rfl⟩;obtain ⟨ob, kb, hb⟩ : ∃ o k, fD L el = (o, k) := ⟨_, _, rfl⟩;obtain ⟨la, ra, ka', ha'⟩ : ∃ l r k, eZ H th = (l, r, k) := ⟨_, _, _, rfl⟩;obtain ⟨lb, rb, kb', hb'⟩ : ∃ l r k, eZ H el = (l, r, k) := ⟨_, _, _, rfl⟩;rw [ha, ha'] at h1;rw [hb, hb'] at h2;rw [ha, hb, ha', hb'];obtain rfl : ka = ka' := h1.ok;obtain rfl : kb = kb' := h2.ok;cases ka
    ·exact .bad
    cases kb
    ·exact .bad
    have ea := h1.ret rfl;have eb := h2.ret rfl;cases oa with
    | none =>
      obtain rfl : ra = true := ea.2 rfl;cases ob with
      | none =>
        obtain rfl : rb = true := eb.2 rfl;exact TS
      | some Lb =>
        cases rb with
        | true => cases eb.1 rfl
        | false => exact .some (h2.same rfl Lb rfl)
    | some La =>
      cases ra with
      | true => cases ea.1 rfl
      | false =>
        cases ob with
        | none =>
          obtain rfl : rb = true := eb.2 rfl;exact .some (h1.same rfl La rfl)
        | some Lb =>
          cases rb with
          | true => cases eb.1 rfl
          | false => exact .some ((h1.same rfl La rfl).meet (h2.same rfl Lb rfl))
   split
   ·have e := h1.ok;refine ⟨e, fun _ => ⟨fun q => Bool.noConfusion q, fun q => by cases q⟩, fun _ L' q => by cases q; exact h, fun q => Bool.noConfusion q⟩
   split
   ·exact TS
   ·exact .some h
theorem ze : ∀ (l : List Stmt) {L H : List Nm}, jC L H → Fit (fD L l) (eZ H l)
 | [], L, H, h => by simp only [fD, eZ]; exact .some h
 | x :: l, L, H, h => by
   have h1 := ME x h;obtain ⟨o, k, hs⟩ : ∃ o k, jH L x = (o, k) := ⟨_, _, rfl⟩;obtain ⟨H', r, k', hs'⟩ : ∃ H' r k, wK H x = (H', r, k) := ⟨_, _, _, rfl⟩;rw [hs, hs'] at h1;rw [sK L x l hs, uW H x l hs'];obtain rfl : k = k' := h1.ok;cases k with
   | false => exact .bad
   | true =>
     have e := h1.ret rfl;rw [if_pos rfl, if_neg (by decide)];cases o with
     | none =>
       obtain rfl : r = true := e.2 rfl;cases l with
       | nil => exact ⟨rfl, fun _ => ⟨fun _ => rfl, fun _ => rfl⟩, fun _ L' q => (by cases q), fun _ => rfl⟩
       | cons y l => exact .bad
     | some L' =>
       cases r with
       | true => cases e.1 rfl
       | false => exact ze l (h1.same rfl L' rfl)
end
abbrev Srt (L : List Nm) : Prop := L.Pairwise (· < ·)
mutual
theorem Mf : ∀ (x : Stmt) {L : List Nm}, Srt L → ∀ L', (jH L x).1 = some L' → Srt L'
 | ⟨k, n, ty, nm, es, th, el⟩, L, h, L', e => by
   have h1 := @rJ th L h;have h2 := @rJ el L h;simp only [jH] at e;split at e
   ·cases e
   split at e
   ·cases e
    split
    ·exact h.filter _
    ·exact wP (h.filter _)
   split at e
   ·cases e
    split
    ·exact wP h
    ·exact h
   split at e
   ·cases ha : (fD L th).1 with
    | none => rw [ha] at e; exact h2 L' e
    | some LA =>
      have := h1 LA ha;cases hb : (fD L el).1 with
      | none => rw [ha, hb] at e; cases e; exact this
      | some LB => rw [ha, hb] at e; cases e; exact this.filter _
   split at e
   ·cases e; exact h
   split at e
   ·cases e
   ·cases e; exact h
theorem rJ : ∀ (l : List Stmt) {L : List Nm}, Srt L → ∀ L', (fD L l).1 = some L' → Srt L'
 | [], L, h, L', e => by simp only [fD] at e; cases e; exact h
 | x :: l, L, h, L', e => by
   obtain ⟨o, k, hs⟩ : ∃ o k, jH L x = (o, k) := ⟨_, _, rfl⟩;have h1 := @Mf x L h;rw [hs] at h1;rw [sK L x l hs] at e;cases k with
   | false => cases e
   | true =>
     rw [if_pos rfl] at e;cases o with
     | none => cases l <;> cases e
     | some L1 => exact rJ l (h1 L1 rfl) L' e
end
theorem CX {L : List Nm} (h : Srt L) : L.Nodup := h.imp fun {a b} q e => by subst e; exact List.lt_irrefl _ q
theorem Xt {L H : List Nm} (h : Srt L) (k : Srt H) (e : jC L H) : L = H := by
 have hp : L.Perm H := (List.perm_ext_iff_of_nodup (CX h) (CX k)).2 e;refine List.Perm.eq_of_pairwise (le := (· < ·)) (fun a b _ _ h1 h2 => absurd (List.lt_trans h1 h2) (List.lt_irrefl _)) h k hp
abbrev L0 (hv : List Nm) : List Nm := fT [] hv
theorem Oz (hv : List Nm) : Srt (L0 hv) := pE hv List.Pairwise.nil
def tF (hv : List Nm) (body : List Stmt) : List Nm × Bool × Int := match fD (L0 hv) body with
 | (o, true) => (o.getD [], o.isNone, 0)
 | (_, false) => ([], false, 80)
def QZ (hv : List Nm) (body : List Stmt) : List Nm × Bool × Int := match eZ (L0 hv) body with
 | (l, r, true) => (fT [] l, r, 0)
 | (_, _, false) => ([], false, 80)
theorem NZ (hv : List Nm) (body : List Stmt) : tF hv body = QZ hv body := by
 have h := ze body (L := L0 hv) (H := L0 hv) (fun _ => Iff.rfl);have hs := @rJ body (L0 hv) (Oz hv);obtain ⟨o, k, ho⟩ : ∃ o k, fD (L0 hv) body = (o, k) := ⟨_, _, rfl⟩;obtain ⟨l, r, k', hr⟩ : ∃ l r k, eZ (L0 hv) body = (l, r, k) := ⟨_, _, _, rfl⟩;rw [ho] at h hs;rw [hr] at h;unfold tF QZ;rw [ho, hr];obtain rfl : k = k' := h.ok;cases k with
 | false => rfl
 | true =>
   have e := h.ret rfl;cases o with
   | none =>
     obtain rfl : r = true := e.2 rfl;obtain rfl : l = [] := h.nil rfl;rfl
   | some L =>
     cases r with
     | true => cases e.1 rfl
     | false =>
       have : L = fT [] l := Xt (hs L rfl) (pE l List.Pairwise.nil) (fun s => by rw [zF]; simpa using h.same rfl L rfl s);show (L, false, (0 : Int)) = (fT [] l, false, 0);rw [this]
end AS
end Go.Proofs.YtgaipdillmleeaaGreat
end
section
namespace Go.Proofs.YtgaipdillmleeaaGreat
namespace V
open Go.RowKit AS
theorem Xm (j : Nat) {o : O} (M : Mem) (b : Nat) (hM : ∀ d, M (b + d) = none) (hj : M j = some o) : dJ Tryz.prog 14 [.map j] M [] (.fn 29 [b + 1]) (upd M (b + 1) (some (.box 48 [.map j]))) := by
 refine (jN ah [] Tryz.func14 (by kernel_rfl) rfl rfl (by rfl) (by rfl) ?ids ?res ?sub ?wfm (fun hWF Rr hkeep => ?_))
 case ids => intro a ha i hi; simp at ha; subst ha; simp [A.ids] at hi; subst hi; simp [hj]
 case res => intro i hi; simp [A.ids] at hi; subst hi; rw [upd_same]; rfl
 case sub => exact fun j hj => cO j hj
 case wfm => exact fun hw => dH hw (fun i hi => by simp [O.ids, A.ids] at hi; subst hi; exact cO _ (by rw [hj]; rfl))
 exact Yv
theorem Ya (M : Mem) (b : Nat) (hM : ∀ d, M (b + d) = none) : dJ Tryz.prog 14 [Ec] M [] (.fn 29 [b + 1]) (upd M (b + 1) (some (.box 48 [Ec]))) := by
 refine (jN ah [] Tryz.func14 (by kernel_rfl) rfl rfl (by rfl) (by rfl) ?ids ?res ?sub ?wfm (fun hWF Rr hkeep => ?_))
 case ids => intro a ha i hi; simp at ha; subst ha; simp [A.ids] at hi
 case res => intro i hi; simp [A.ids] at hi; subst hi; rw [upd_same]; rfl
 case sub => exact fun j hj => cO j hj
 case wfm => exact fun hw => dH hw (fun i hi => by simp [O.ids, A.ids] at hi)
 exact Yv
def y7 (x : List Nm × Bool × Int) : A := .tup [(false, [.sl (cBs x.1)]), (false, [.bool x.2.1]), (false, [.int .i64 x.2.2])]
def Jt (hv : List Nm) (body : List Stmt) : Prop := hv.length + dF body ≤ 100000000 ∧ body.length ≤ 1048576 ∧ vV body
set_option maxHeartbeats 4000000 in
theorem zi (hv : List Nm) (body : List Stmt) (hz : Jt hv body) (m : Mem) : COk Tryz.prog 7 [.c (.sl (cBs hv)), .c (.sl (body.map aW))] m (y7 (tF hv body)) := by
 obtain ⟨z1, z2, z3⟩ := hz;refine (aS ah Tryz.func7 (by kernel_rfl) rfl rfl (by rfl) (by rfl) (by rfl) (fun R hkeep => ?_) m);refine W.go ?_;refine W.N9 11 rfl ?_;refine W.loop (ι := Nat) (fun k => ⟨upd (upd (upd (upd (upd (fun _ => .top) 1 (.c (.sl (body.map aW)))) 7 (.map 11)) 12 (.c (.sl (cBs hv)))) 13 (.c (.int .i64 hv.length))) 14 (.c (.int .i64 k)), upd Mem.nil 11 (some (.names (some (L0 (hv.take k)))))⟩)
  (fun k => k ≤ hv.length) (fun k => hv.length - k) 0 ?start (Nat.zero_le _) ?round
 case start =>
  refine iM ?sle ?mle (aQ hkeep)
  case mle => repeat (first | exact aV _ | exact aF _ | refine aT ?_ (by first | rfl | (simp only [ak, aB, Nat.reduceEqDiff, reduceIte, List.length_map, List.take_zero, fT, L0]; done)))
  case sle => repeat (first | exact aM _ | exact aH _ | refine aL ?_ (by first | rfl | (simp only [ak, aD, aC, Nat.reduceEqDiff, reduceIte, List.length_map, List.take_zero, fT, L0]; done)))
 case round =>
  intro k hk;refine W.go ?_;refine W.cond rfl ?_ ?_
  ·intro hlt;replace hlt := dtl hlt;obtain ⟨x, hx⟩ : ∃ x, hv[k]? = some x := ⟨_, List.getElem?_eq_getElem hlt⟩;have htk : L0 (hv.take (k + 1)) = fQ x (L0 (hv.take k)) := by unfold L0; rw [List.take_add_one, hx]; exact nX _ _ _
   repeat (first | refine W.q ?_ | refine W.g ?_ Qw)
   refine zm1 ?_;refine xs0 2 ?_;refine yg (s := ⟨x.toArray⟩) ah rfl rfl rfl rfl rfl rfl rfl rfl rfl ?_;refine mU ?_;refine Je ?_;rw [htk];simp only [AZ, bS];exact O9
  ·intro hge;replace hge := dnl hge;obtain rfl : k = hv.length := by omega
   rw [List.take_length];have hlen := qm hv [];rw [List.length_nil] at hlen;have hlen : (L0 hv).length ≤ hv.length := by have : (L0 hv).length ≤ 0 + hv.length := hlen; omega
   obtain ⟨o, ok, ho⟩ : ∃ o ok, fD (L0 hv) body = (o, ok) := ⟨_, _, rfl⟩;have hr := Xk body z2 z3 (L0 hv) 11 (upd Mem.nil 11 (some (.names (some (L0 hv))))) 50 (fun d => by rw [upd_ne _ _ (by omega)]; rfl) rfl (by omega);have hs := rJ body (Oz hv);have hl := qP body (L0 hv);rw [ho] at hr hs hl;have hjn : jnM (upd Mem.nil 11 (some (.names (some (L0 hv))))) 11 o = upd Mem.nil 11 (some (.names o)) := AY (M := Mem.nil) (fun i o h => by cases h) rfl;simp only [hjn, jq] at hr;have hout : tF hv body = match (o, ok) with | (o, true) => (o.getD [], o.isNone, 0) | (_, false) => ([], false, 80) := by unfold tF; rw [ho] <;> rfl
   rw [hout];clear hout ho hjn;refine W.go ?_;refine zm1 ?_;refine xs0 2 ?_;refine bW (D := [11]) rfl rfl rfl rfl rfl (fun u hu => cu hkeep) (by simp) cw2 hr ?_;simp only [dw, eY, bS];cases ok with
   | false =>
     cases o with
     | none =>
       exact U7
     | some L =>
       exact U7
   | true =>
     cases o with
     | none =>
       skip;refine mU ?_;refine W.cf rfl ?_;refine W.bl ?_;refine zm1 ?_;refine xs0 1 ?_;refine bW (D := []) rfl rfl rfl rfl rfl (fun j hj => by simp at hj) (by simp) cw1 (Ya _ 50 (fun d => (upd_ne _ _ (by omega)).trans rfl)) ?_;simp only [dw, eY, bS];refine xs0 0 ?_;refine av rfl rfl rfl rfl rfl (by simp) cw1 (EA (q := 51) rfl) ?_;refine xe0 ?_;refine W.rt ?_;simp only [Tryz.f7, aU, ay, toT, fin, exb, simprocAttr, y7, List.map_nil, Option.getD, Option.isNone]
     | some L =>
       have hL : L.length ≤ 1000000000000 := by have := hl L rfl; omega
       refine mU ?_;refine W.cf rfl ?_;refine W.bl ?_;refine zm1 ?_;refine xs0 1 ?_;refine bW (D := []) rfl rfl rfl rfl rfl (fun j hj => by simp at hj) (by simp) cw1 (Xm 11 _ 50 (fun d => (upd_ne _ _ (by omega)).trans rfl) rfl) ?_;simp only [dw, eY, bS];refine xs0 0 ?_;refine av rfl rfl rfl rfl rfl (by simp) cw1 (Jm (q := 51) (j := 11) rfl rfl (hs L rfl) hL) ?_;refine xe0 ?_;refine W.rt ?_;simp only [Tryz.f7, aU, ay, toT, fin, exb, simprocAttr, y7, Option.getD, Option.isNone]
theorem Rl : ∀ (n : Nat) (x : Stmt), SizeOf.sizeOf x ≤ n → SmS x → ROk x := by
 intro n;induction n using Nat.strongRecOn with
 | ind n ih =>
 rintro ⟨k, nn, ty, nm, es, th, el⟩ hn hS;have hsz := Stmt.mk.sizeOf_spec k nn ty nm es th el;have hS' := hS;simp only [SmS] at hS';obtain ⟨s1, s2, s3, s4, s5, s6⟩ := hS';exact R5 k nn ty nm es th el hS
  (fun H hH m => DU th s3 (fun x hx => ih (SizeOf.sizeOf x) Kq x (Nat.le_refl _) (s4.mem hx)) H hH m)
  (fun H hH m => DU el s5 (fun x hx => ih (SizeOf.sizeOf x) Kq x (Nat.le_refl _) (s6.mem hx)) H hH m)
set_option maxHeartbeats 4000000 in
theorem Bp (hv : List Nm) (body : List Stmt) (hz : Jt hv body) (m : Mem) : COk Tryz.prog 11 [.c (.sl (cBs hv)), .c (.sl (body.map aW))] m (y7 (tF hv body)) := by
 rw [NZ];obtain ⟨z1, z2, z3⟩ := hz;have hlen := qm hv [];rw [List.length_nil] at hlen;have hs := DU body z2 (fun x hx => Rl _ x (Nat.le_refl _) (z3.mem hx)) (L0 hv) (by have : (L0 hv).length ≤ 0 + hv.length := hlen; omega);have hsl := kQ body (L0 hv);obtain ⟨l, r, ok, hr⟩ : ∃ l r k, eZ (L0 hv) body = (l, r, k) := ⟨_, _, _, rfl⟩;rw [hr] at hs hsl;simp only [pJ] at hs;have hsl : l.length ≤ (L0 hv).length + dF body := hsl;have hlen : (L0 hv).length ≤ 0 + hv.length := hlen;have hout : QZ hv body = match (l, r, ok) with | (l, r, true) => (fT [] l, r, 0) | (_, _, false) => ([], false, 80) := by unfold QZ; rw [hr] <;> rfl
 rw [hout];refine (aS ah Tryz.func11 (by kernel_rfl) rfl rfl (by rfl) (by rfl) (by rfl) (fun R hkeep => ?_) m);refine W.go ?_;refine zm1 ?_;refine xs0 1 ?_;refine av rfl rfl rfl rfl rfl (by simp) cw1 (CZ hv (by omega) _) ?_;refine xs0 1 ?_;refine av rfl rfl rfl rfl rfl (by simp) cw2 (hs _) ?_;refine mU ?_;cases ok with
 | false =>
   skip;refine jA ?_;refine W.go ?_;refine W.rt ?_;simp only [Tryz.f11, aU, ay, toT, fin, exb, simprocAttr, y7, List.map_nil]
 | true =>
   skip;refine GR ?_;refine zm1 ?_;refine xs0 1 ?_;refine av rfl rfl rfl rfl rfl (by simp) cw1 (CZ l (by omega) _) ?_;refine xe0 ?_;refine W.rt ?_;simp only [Tryz.f11, aU, ay, toT, fin, exb, simprocAttr, y7]
set_option maxHeartbeats 4000000 in
theorem M6 (l : List Nm) (hl : l.length ≤ 1000000000) (m : Mem) : COk Tryz.prog 15 [.agg [.sl [], .sl [], .sl (cBs l)], .agg [.sl [], .sl [], .sl (cBs l)]] m (.c (.bool true)) := by
 refine (aS ah Tryz.func15 (by kernel_rfl) rfl rfl (by rfl) (by rfl) (by rfl) (fun R hkeep => ?_) m);refine W.go ?_;refine W.cond rfl ?_ ?_
 ·intro h;simp at h
 intro _;refine W.go ?_;refine W.loop (ι := Unit) (fun _ => ⟨upd (upd (upd (upd (upd (fun _ => .top) 2 (.ptr 2 0)) 3 (.ptr 3 0)) 34 (.c (.sl []))) 35 (.c (.int .i64 0))) 36 (.c (.int .i64 0)), upd (upd Mem.nil 2 (some (.box 58 [.c (.sl []), .c (.sl []), .c (.sl (cBs l))]))) 3 (some (.box 58 [.c (.sl []), .c (.sl []), .c (.sl (cBs l))]))⟩)
  (fun _ => True) (fun _ => 0) () ?start trivial ?round
 case start =>
  exact Ae
 case round =>
  rintro _ -;refine W.go ?_;refine W.cond rfl ?_ ?_
  ·intro h;simp at h
  intro _;refine W.go ?_;refine W.loop (ι := Unit) (fun _ => ⟨upd (upd (upd (upd (upd (fun _ => .top) 2 (.ptr 2 0)) 3 (.ptr 3 0)) 52 (.c (.sl []))) 53 (.c (.int .i64 0))) 54 (.c (.int .i64 0)), upd (upd Mem.nil 2 (some (.box 58 [.c (.sl []), .c (.sl []), .c (.sl (cBs l))]))) 3 (some (.box 58 [.c (.sl []), .c (.sl []), .c (.sl (cBs l))]))⟩)
   (fun _ => True) (fun _ => 0) () ?start trivial ?round
  case start =>
   exact Ae
  case round =>
   rintro _ -;refine W.go ?_;refine W.cond rfl ?_ ?_
   ·intro h;simp at h
   intro _;refine W.go ?_;refine W.loop (ι := Nat) (fun k => ⟨upd (upd (upd (upd (upd (fun _ => .top) 2 (.ptr 2 0)) 3 (.ptr 3 0)) 70 (.c (.sl (cBs l)))) 71 (.c (.int .i64 l.length))) 72 (.c (.int .i64 k)), upd (upd Mem.nil 2 (some (.box 58 [.c (.sl []), .c (.sl []), .c (.sl (cBs l))]))) 3 (some (.box 58 [.c (.sl []), .c (.sl []), .c (.sl (cBs l))]))⟩)
    (fun k => k ≤ l.length) (fun k => l.length - k) 0 ?start (Nat.zero_le _) ?round
   case start =>
    exact YI
   case round =>
    intro k hk;refine W.go ?_;refine W.cond rfl ?_ ?_
    ·intro hlt;replace hlt := dtl hlt;obtain ⟨x, hx⟩ : ∃ x, l[k]? = some x := ⟨_, List.getElem?_eq_getElem hlt⟩;refine W.go ?_;refine zm5 ?_;refine aA Qw ?_;refine W.cond rfl ?_ ?_
     ·intro h;simp at h
     ·intro h;refine W.go ?_;exact WQ
    ·intro hge;refine W.go ?_;refine W.rt ?_;simp only [Tryz.f15, aU, ay, toT, fin, exb, simprocAttr]
theorem QL (l : List Nm) (hl : l.length ≤ 1000000000) (m : Mem) : COk Tryz.prog 8 [.c (.sl (cBs l)), .c (.sl (cBs l))] m (.c (.bool true)) := by
 refine (aS ah Tryz.func8 (by kernel_rfl) rfl rfl (by rfl) (by rfl) (by rfl) (fun R hkeep => ?_) m);refine W.go ?_;refine zm1 ?_;refine xs0 4 ?_;refine av rfl rfl rfl rfl rfl (by simp) cw2 (M6 l hl _) ?_;refine xe0 ?_;refine W.rt ?_;simp only [Tryz.f8, aU, ay, toT, fin, exb, simprocAttr]
def nmC : ByteArray := ⟨#[99]⟩
def nmX : ByteArray := ⟨#[120]⟩
def Wi : ByteArray := ⟨#[105, 110, 116]⟩
def FQ : List Stmt := [⟨1, 0, Wi, nmX, [⟨4, 0, nmC, []⟩], [], []⟩]
def Gu : List Stmt := [⟨5, 0, ⟨#[]⟩, ⟨#[]⟩, [⟨4, 0, nmX, []⟩], [], []⟩]
theorem Xl : tF [[99]] FQ = ([[99], [120]], false, 0) := by decide
theorem XJ : tF [] Gu = ([], false, 80) := by decide
theorem Sy : Jt [[99]] FQ := ⟨by decide, by decide, by simp [FQ, vV, SmS, uI, SmE]⟩
theorem Ri : Jt [] Gu := ⟨by decide, by decide, by simp [Gu, vV, SmS, uI, SmE]⟩
set_option maxHeartbeats 4000000 in
theorem QD (m : Mem) : COk Tryz.prog 4 [] m (.c (.bool true)) := by
 have h1 := zi [[99]] FQ Sy;have h2 := zi [] Gu Ri;rw [Xl] at h1;rw [XJ] at h2;have h3 := QL [[99], [120]] (by decide);simp only [FQ, Gu, y7, List.map_cons, List.map_nil, aW, pK, cExpr, aO, cB, nmC, nmX, Wi] at h1 h2 h3;refine (aS ah Tryz.func4 (by kernel_rfl) rfl rfl (by rfl) (by rfl) (by rfl) (fun R hkeep => ?_) m);refine W.go ?_;refine zm1 ?_;refine xs0 5 ?_;refine av rfl rfl rfl rfl rfl (by simp) cw2 (h1 _) ?_;refine mU ?_;refine zm1 ?_;refine xs0 4 ?_;refine Xd ?_;refine mU ?_;refine zm1 ?_;refine xs0 2 ?_;refine av rfl rfl rfl rfl rfl (by simp) cw2 (h3 _) ?_;refine xe0 ?_;refine W.rt ?_;simp only [Tryz.f4, aU, ay, toT, fin, exb, simprocAttr]
end V
end Go.Proofs.YtgaipdillmleeaaGreat
end
section
namespace Go.Proofs.YtgaipdillmleeaaGreat
namespace V
open Go.RowKit
theorem MR.Xw {w0 w : World} {I0 I : Nat → Nat → Prop} {B : Nat → Value} {m : Mem} (hm : MR w0 I0 B I m w) {j b : Nat} {ty : TypeId} {x : A} {z : Int} (hj : m j = some (.box ty [x])) (hB : B j = .pointer (some ⟨b, 0, none⟩)) (hz : (Lit.int .i64 z).wf = true) :
 (∃ u, w.cell? ⟨b, 0, none⟩ = some u) ∧ w.frozen? ⟨b, 0, none⟩ = false ∧ MR w0 I0 B I (upd m j (some (.box ty [.c (.int .i64 z)]))) (w.setCell ⟨b, 0, none⟩ (.int .i64 z)) ∧ Ext w (w.setCell ⟨b, 0, none⟩ (.int .i64 z)) I I := by
 obtain ⟨b', vs, h1, h2, h3, h4⟩ := hm.objs j _ hj
 rw [hB] at h1
 obtain rfl : b = b' := by cases h1; rfl
 match vs, h3 with
 | [u], ⟨⟨hu, hc⟩, _⟩ =>
   have hlt := (Array.getElem?_eq_some_iff.1 h2).1;have hset : (w.setCell ⟨b, 0, none⟩ (.int .i64 z)).heap[b]? = some (.cells ([.int .i64 z] : List Value).toArray ty) := by
    simp only [World.setCell, Array.getElem?_modify, if_true, h2];rfl
   have ht := hm.turn (w' := w.setCell ⟨b, 0, none⟩ (.int .i64 z)) (j := j) (b := b) (o' := .box ty [.c (.int .i64 z)]) hj ⟨0, hB⟩ (fun k hk => by
    obtain ⟨off, hk⟩ := hk;rw [hB] at hk; cases hk; rfl) h4 rfl rfl rfl (by simp [World.setCell]) (fun k hk => Below.heap_setCell w ⟨b, 0, none⟩ _ k hk) (fun i hi => by simp [O.ids, A.ids] at hi) (fun hE => ⟨b, [.int .i64 z], hB, hset, ⟨⟨.int hz, rfl⟩, trivial⟩, h4⟩)
   refine ⟨⟨u, by simp [World.cell?, h2]⟩, by simp [World.frozen?, h2], ht.1, ht.2⟩
theorem W.OE {P : Go.Program} {R : Ref} {n : Nat} {ds : List Deferred} {st : St} {K : Exit → St → Prop} {id : Nat} {o : Oper} {c : Call} {g : FuncId} {x : Operand} {j : Nat} (hw : eH #[o] o st.s = some true) (hop : o.op = .defer c) (hc : c.callee = .value (.func g)) (ha : c.args = #[x]) (hd : o.dst = none) (hx : ev st.s x = .ptr j 0)
 (h : ∀ v, K .normal ⟨upd (upd st.s DID (.defs ({ target := .fn (.func g) #[], args := #[v] } :: dfs (st.s DID)))) (DID + 1) (.pinP v j 0), st.m⟩) : W P R n ds st (.region id #[o] false) K := fun a w hr => by
 obtain ⟨B, I, hm, hx0, hkp, hs⟩ := hr.ex
 refine wp_region ?_
 show wpOps P #[o] _ [0] a w
 rw [wpOps_cons]
 unfold wpOp
 have hwt := fC hs hw
 simp only [List.getElem?_toArray, List.getElem?_cons_zero]
 rw [if_pos hwt]
 refine .inl ?_
 unfold Oper.wp Oper.upon
 have hrun : (execOp a.eval o).run P w = .ok (.defer { target := .fn (.func g) #[], args := #[a.eval x] }) w := by
  simp only [execOp, hop, resolve, hc, ha, Act.eval, Deferred.ofValue, Sem.run_bind, Sem.run_pure, Result.andThen_ok];simp [Act.eval]
 rw [hrun]
 have hv := gM hs x
 rw [hx] at hv
 obtain ⟨b, hB, hv⟩ := hv
 have hput : ({ a with defers := { target := .fn (.func g) #[], args := #[a.eval x] } :: a.defers } : Act).put o.dst undef = { a with defers := { target := .fn (.func g) #[], args := #[a.eval x] } :: a.defers } := by rw [hd]; rfl
 show wpOps P #[o] _ [] _ _
 rw [hput]
 refine ⟨_, h (a.eval x), ⟨B, I, hm, hx0, hkp, fun t => ?_⟩, fun t i hi => ?_, hr.size, hr.nn, ?_, hr.kept⟩
 ·show RV B w I (upd (upd st.s DID _) (DID + 1) _ t) (a.tmps.getD t undef)
  by_cases e : t = DID + 1
  ·subst e; rw [upd_same]; exact ⟨b, hB, hv⟩
  ·rw [upd_ne _ _ e]
   by_cases e2 : t = DID
   ·subst e2; rw [upd_same]; trivial
   ·rw [upd_ne _ _ e2]; exact hs t
 ·have hi : i ∈ (upd (upd st.s DID _) (DID + 1) _ t).ids := hi
  by_cases e : t = DID + 1
  ·subst e
   rw [upd_same] at hi
   simp [A.ids] at hi; subst hi
   have := hr.wf
   cases x with
   | tmp q =>
     have hx : st.s q = .ptr i 0 := hx;exact hr.ids q i (by rw [hx]; simp [A.ids])
   | const u => exfalso; simp only [ev] at hx; unfold ofConst at hx; (repeat' split at hx) <;> cases hx
   | global q => simp [ev] at hx
   | func q => simp [ev] at hx
  ·rw [upd_ne _ _ e] at hi
   by_cases e2 : t = DID
   ·subst e2; rw [upd_same] at hi; simp [A.ids] at hi
   ·rw [upd_ne _ _ e2] at hi; exact hr.ids t i hi
 ·have e : (upd (upd st.s DID (.defs ({ target := .fn (.func g) #[], args := #[a.eval x] } :: dfs (st.s DID)))) (DID + 1) (.pinP (a.eval x) j 0)) DID = .defs ({ target := .fn (.func g) #[], args := #[a.eval x] } :: dfs (st.s DID)) := by
   rw [upd_ne _ _ (by decide), upd_same]
  show _ :: a.defers = dfs ((upd (upd st.s DID (.defs ({ target := .fn (.func g) #[], args := #[a.eval x] } :: dfs (st.s DID)))) (DID + 1) (.pinP (a.eval x) j 0)) DID) ++ ds
  rw [e, hr.defs]; rfl
theorem MR.cellOf {w0 w : World} {I0 I : Nat → Nat → Prop} {B : Nat → Value} {m : Mem} (hm : MR w0 I0 B I m w) {j b : Nat} {ty : TypeId} {n : Int} (hj : m j = some (.box ty [.c (.int .i64 n)])) (hB : B j = .pointer (some ⟨b, 0, none⟩)) : w.cell? ⟨b, 0, none⟩ = some (.int .i64 n) := by
 obtain ⟨b', vs, h1, h2, h3, h4⟩ := hm.objs j _ hj;rw [hB] at h1;obtain rfl : b = b' := by cases h1; rfl
 match vs, h3 with
 | [u], ⟨⟨hu, hc⟩, _⟩ =>
   have hu : RC w I u (.int .i64 n) := hu;cases hu
   simp [World.cell?, h2]
theorem Pv {T : Tab} (hT : T.Ok Tryz.prog) {f : FuncId} {fn : Func} {c : Code} {l : List ResultVar} {args : List A} {r : A} (hf : (Tryz.prog).funcs[f]? = some fn) (hn : (fn.name == "runtime.NumGoroutine") = false) (hb : fn.body = some c) (hl : fn.results.toList = l) (hd : args.all (fun a => a.ids.isEmpty && !(match a with | .defs _ => true | _ => false)) = true) (hr : r.ids = []) (hle : decide (args.length ≤ fn.ntmps ∧ fn.ntmps ≤ DID) = true)
 (hW : ∀ R : Ref, R.keep = (fun _ => False) → W Tryz.prog R fn.ntmps [] ⟨entry args, Mem.nil⟩ c (fun e st => ((e = .normal ∨ e = .ret) ∧ dfs (st.s DID) = [] ∧ aU T st l = some r) ∨
   ∃ v j, dfs (st.s DID) = [{ target := .fn (.func 17) #[], args := #[v] }] ∧ st.s (DID + 1) = .pinP v j 0 ∧
     (((e = .normal ∨ e = .ret) ∧ aU T st l = some r) ∨ (e = .panic fU ∧ ∃ ty n, st.m j = some (.box ty [.c (.int .i64 n)]) ∧ aU T ⟨st.s, upd st.m j (some (.box ty [.c (.int .i64 70)]))⟩ l = some r)))) (m : Mem) : COk Tryz.prog f args m r := by
 refine ⟨enters_of hf hn hb, hr, fun m' _ => ?_⟩
 intro w0 I0 B I w vals hm hv
 have hlen := lQ hv
 have hids : ∀ a ∈ args, a.ids = [] := fun a ha => by have := List.all_eq_true.1 hd a ha; simp only [Bool.and_eq_true] at this; simpa using this.1
 have hdf : ∀ a ∈ args, ∀ l, a ≠ .defs l := fun a ha l e => by have := List.all_eq_true.1 hd a ha; subst e; simp at this
 obtain ⟨hle1, hle2⟩ := of_decide_eq_true hle
 refine calls_of_wp_defers hf hb ?_
 have h0 : SR ⟨w, I, w, I, B, fun _ => False⟩ fn.ntmps [] ⟨entry args, Mem.nil⟩ { tmps := vals.toArray ++ Array.replicate (fn.ntmps - vals.toArray.size) undef, defers := [] } w := by
  exact Y5
 refine wp_mono (hW _ rfl _ w h0) ?_
 rintro e a' w' ⟨st', hres, hsr⟩
 obtain ⟨⟨B', I', hm', hx', -, hs'⟩, -, -, -, hds, -⟩ := hsr
 -- what is handed back, out of what the result variables hold
 have hand : ∀ (w2 : World) (st2 : St), (MR w I B' I' st2.m w2) → (∀ t, RV B' w2 I' (st2.s t) (a'.tmps.getD t undef)) → aU T st2 l = some r →
  ∃ v, (results fn a'.tmps).run Tryz.prog w2 = .ok v w2 ∧ ∃ v' I', Ending.returned v = .returned v' ∧ Below w.heap.size w w2 ∧ (∀ b o, I b o → I' b o) ∧ (∀ b o, I' b o → I b o ∨ (w.heap.size ≤ b ∧ b < w2.heap.size)) ∧ RV B w2 I' r v' := by
  intro w2 st2 hm2 hs2 hres2
  obtain ⟨v, h1, h2, h3⟩ := uZ (st := st2) hT hm2 hs2 hl hres2
  exact ⟨v, h1, v, I', rfl, hm2.below, hm2.base, fun b o h => (hm2.old b o h).imp id fun k => ⟨k, hm2.there b o h⟩, h2.mono (Ext.refl _ _) fun j hj => by rw [h3] at hj; simp at hj⟩
 have hinv : ∀ (v : Value) (w : World), (invoke (.fn (.func 17) #[]) #[v]).run Tryz.prog w = .ok (.enter 17 #[v]) w := fun v w => by
  simp [invoke]
 rcases hres with ⟨he, hdn, hres⟩ | ⟨v, j, hdn, hpin, hres⟩
 ·rw [hdn] at hds
  have hds : a'.defers = [] := hds
  have key := hand w' st' hm' hs' hres
  rcases he with rfl | rfl <;> (show Leaves _ _ _ _ _ _ _; rw [hds]; exact key)
 ·rw [hdn] at hds
  have hds : a'.defers = [{ target := .fn (.func 17) #[], args := #[v] }] := hds
  rcases hres with ⟨he, hres⟩ | ⟨rfl, ty, n, hj, hres⟩
  ·have key := hand w' st' hm' hs' hres
   have key2 : Leaves Tryz.prog fn a'.tmps (fun e w' => ∃ v I', e = .returned v ∧ Below w.heap.size w w' ∧ (∀ b o, I b o → I' b o) ∧ (∀ b o, I' b o → I b o ∨ (w.heap.size ≤ b ∧ b < w'.heap.size)) ∧ RV B w' I' r v) a'.defers .returning w' := by
    rw [hds];refine leaves_cons (by simp) (hinv v w') (CallsD.mono (LG v w') ?_);rintro e u' w'' ⟨rfl, rfl, rfl⟩;exact key
   rcases he with rfl | rfl <;> exact key2
  ·have hp := hs' (DID + 1)
   rw [hpin] at hp
   obtain ⟨b0, hp1, hp2⟩ := hp
   cases hp2
   have hcell := hm'.cellOf hj hp1
   obtain ⟨-, hfz, hm2, hE2⟩ := hm'.Xw (z := 70) hj hp1 (by decide)
   show Leaves _ _ _ _ _ _ _
   rw [hds]
   refine leaves_cons (by simp [fU]) (hinv _ w') (CallsD.mono (ET b0 n w' hcell hfz []) ?_)
   rintro e u' w'' ⟨rfl, rfl, o, rfl⟩
   have hb2 : Below (w'.setCell ⟨b0, 0, none⟩ (.int .i64 70)).heap.size (w'.setCell ⟨b0, 0, none⟩ (.int .i64 70)) ((w'.setCell ⟨b0, 0, none⟩ (.int .i64 70)).alloc o) := (Below.refl _ _).alloc (Nat.le_refl _) o
   have hm3 := hm2.call hb2
   exact hand _ ⟨st'.s, upd st'.m j (some (.box ty [.c (.int .i64 70)]))⟩ hm3 (fun t => (hs' t).mono (hE2.trans (hm2.ext hb2 (fun _ _ k => k))) fun _ _ => rfl) hres
def F3 (M : Mem) (ok : Bool) : Option (A × Mem) := if ok = true then some (.tup [], M) else none
theorem Sc {M : Mem} {e i j k : Nat} {x y z z' w : Option O} (hij : j ≠ i) (hjk : j ≠ k) (hje : j ≠ e) (hie : i ≠ e) (hj : M j = none) : MLe (upd (upd (upd (upd (upd M e x) i y) k z) j w) k z') (upd (upd (upd M e x) i y) k z') := fun u => by
 by_cases h1 : u = k
 ·subst h1; exact .inr (by rw [upd_same, upd_same])
 ·by_cases h2 : u = j
  ·subst h2; exact .inl (by rw [upd_ne _ _ h1, upd_ne _ _ hij, upd_ne _ _ hje]; exact hj)
  ·exact .inr (by rw [upd_ne _ _ h1, upd_ne _ _ h1, upd_ne _ _ h2, upd_ne _ _ h1])
def Ov (M : Mem) (e : Nat) (m : Mem) : Prop := ∀ u, u ≠ e → M u = none ∨ m u = M u
theorem Rt {M : Mem} {e : Nat} : Ov M e M := fun u _ => .inr rfl
theorem abw {M m : Mem} {e : Nat} {x : Option O} (h : Ov M e m) : Ov M e (upd m e x) := fun u hu => by rw [upd_ne _ _ hu]; exact h u hu
theorem Xy {M m : Mem} {e i : Nat} {x : Option O} (hi : M i = none) (h : Ov M e m) : Ov M e (upd m i x) := fun u hu => by
 by_cases h1 : u = i
 ·subst h1; exact .inl hi
 ·rw [upd_ne _ _ h1]; exact h u hu
theorem MN {M m : Mem} {c0 e : Nat} (h : Ov M e m) : MLe m (upd (upd M c0 none) e none) := fun u => by
 by_cases h1 : u = e
 ·subst h1; exact .inl (upd_same ..)
 ·rw [upd_ne _ _ h1];by_cases h2 : u = c0
  ·subst h2; exact .inl (upd_same ..)
  ·rw [upd_ne _ _ h2];exact Qp
theorem Zr {M m : Mem} {c0 e : Nat} (h : Ov M e m) : MLe (upd (upd m c0 none) e none) (upd (upd M c0 none) e none) := fun u => by
 by_cases h1 : u = e
 ·subst h1; exact .inl (upd_same ..)
 ·rw [upd_ne _ _ h1, upd_ne _ _ h1];by_cases h2 : u = c0
  ·subst h2; exact .inl (upd_same ..)
  ·rw [upd_ne _ _ h2, upd_ne _ _ h2];exact Qp
def wB : Tab := { tab with eff := fun f => f == 37 }
theorem BB.ah : wB.Ok Tryz.prog := ⟨V.ah.ty, V.ah.zero, V.ah.elem, V.ah.off, V.ah.bool, V.ah.fields, V.ah.bytes, V.ah.nilk, V.ah.int, V.ah.map, V.ah.str, V.ah.one, V.ah.seq⟩
theorem BB.tabs : wB.ty = tab.ty ∧ wB.zero = tab.zero ∧ wB.elem = tab.elem ∧ wB.off = tab.off ∧ wB.bool = tab.bool ∧ wB.fields = tab.fields ∧ wB.bytes = tab.bytes ∧ wB.nilk = tab.nilk ∧ wB.int = tab.int ∧ wB.map = tab.map ∧ wB.str = tab.str ∧ wB.one = tab.one ∧ wB.seq = tab.seq := ⟨rfl, rfl, rfl, rfl, rfl, rfl, rfl, rfl, rfl, rfl, rfl, rfl, rfl⟩
section
variable (p : Program) (inn ret : ByteArray) (hS : fu p.classes) (hB : q8 p.classes) (hlen : p.classes.length ≤ 16) (hchk : ∀ m, COk Tryz.prog 16 [.agg (bI p)] m (.c (.int .i64 0)))
include hS hB hlen hchk
set_option maxHeartbeats 8000000 in
theorem Hl : ∀ (n : Nat) (l : List Stmt), SizeOf.sizeOf l ≤ n → jF l → ∀ (env : List Slot), env.length + dF l ≤ 100000000 → ∀ (M : Mem) (b c0 e : Nat), (∀ d, M (b + d) = none) →
 M c0 = some (.box 64 [.c (.sl (p.classes.map au)), .c (.sl (aO p.main)), .c (.str inn), .c (.str ret), .own e]) → M e = some (.mrow 46 2 (env.map aJ)) → (∀ i o, M i = some o → i ≠ c0 → c0 ∉ o.ids ∧ e ∉ o.ids ∧ O.kill e o = o) →
 Va Tryz.prog 37 [.ptr c0 0, .c (.sl (l.map aW))] M [e] [c0, e] fU (upd (upd M c0 none) e none) (F3 M (dR p.classes inn ret env l)) := by
 intro n
 induction n using Nat.strongRecOn with
 | ind n ih =>
 intro l hn hK env hcnt M b c0 e hfar hc0 he hno
 have cb : ∀ d, (c0 = b + d) = False := jK hfar hc0
 have bc : ∀ d, (b + d = c0) = False := nG hfar hc0
 have eb : ∀ d, (e = b + d) = False := jK hfar he
 have be : ∀ d, (b + d = e) = False := nG hfar he
 have ce : (c0 = e) = False := eq_false fun h => by subst h; rw [hc0] at he; cases he
 have ec : (e = c0) = False := eq_false fun h => by subst h; rw [hc0] at he; cases he
 have hll : l.length ≤ 100000000 := by have := oJ l; omega
 obtain ⟨r, hr⟩ : ∃ r, F3 M (dR p.classes inn ret env l) = r := ⟨_, rfl⟩
 rw [hr]
 refine MX ah [e] [c0, e] r Tryz.func37 (by kernel_rfl) rfl rfl (by rfl) (by rfl) ?ids ?res ?hsx ?hwx (fun hWF Rr hkeep => ?_)
 case ids => intro a ha j hj; simp at ha; rcases ha with rfl | rfl <;> simp [A.ids] at hj; subst hj; simp [hc0]
 case res =>
  intro x M' hx;rw [← hr] at hx;unfold F3 at hx;split at hx
  ·cases hx
   exact ⟨fun i hi => by simp [A.ids] at hi, fun i hi => hi, fun hw => hw⟩
  ·cases hx
 case hsx =>
  intro j hj hd;simp only [List.mem_cons, List.not_mem_nil, or_false, not_or] at hd;rw [upd_ne _ _ hd.2, upd_ne _ _ hd.1]; exact hj
 case hwx =>
  intro hw i o ho j hj;by_cases e1 : i = e
  ·subst e1; rw [upd_same] at ho; cases ho
  rw [upd_ne _ _ e1] at ho;by_cases e2 : i = c0
  ·subst e2; rw [upd_same] at ho; cases ho
  rw [upd_ne _ _ e2] at ho;obtain ⟨h1, h2, -⟩ := hno i o ho e2;rw [upd_ne _ _ (fun h => h2 (by rw [← h]; exact hj)), upd_ne _ _ (fun h => h1 (by rw [← h]; exact hj))];exact hw i o ho j hj
 have kept : ∀ i, Rr.keep i → (M i).isSome = true := fun i hi => by rw [hkeep] at hi; exact hi.1
 have nke : ¬ Rr.keep e := by
  rw [hkeep]; intro h;cases r <;> exact h.2 (by simp [DB])
 have hel : ((env.length : Nat) : Int) ≤ 9223372036854775807 := by omega
 repeat (first | refine W.q ?_ | refine W.region ah b (by decide) (aR (by simp only [exb, simprocAttr, hc0, he, List.length_map]; rfl)) ?_)
 refine W.loop (ι := Nat) (fun k => ⟨upd (upd (upd (upd (upd (fun _ => .top) 0 (.ptr c0 0)) 4 (.c (.int .i64 env.length))) 15 (.c (.sl (l.map aW)))) 16 (.c (.int .i64 l.length))) 17 (.c (.int .i64 k)), upd M e (some (.mrow 46 2 ((jl env (l.take k)).map aJ)))⟩) (fun k => k ≤ l.length ∧ dR p.classes inn ret env (l.take k) = true) (fun k => l.length - k) 0 ?start ⟨Nat.zero_le _, by simp [dR]⟩ ?round
 case start =>
  refine dU ?sle ?mle ?swf ?mwf (fun i hi => cO i (kept i hi)) (by rfl)
  case swf => repeat (first | exact bP _ | refine bQ ?_ (by simp [A.ids, ak, hc0, ce, ec]))
  case mwf => exact dH hWF (fun i hi => by simp [O.ids] at hi)
  case mle => exact dY (IY M (by rw [he]; simp [jl])).symm
  case sle => repeat (first | exact aM _ | exact aH _ | refine aL ?_ Qy)
 case round =>
  rintro k ⟨hkl, hyes⟩;refine zm3 ?_;refine W.cond rfl ?_ ?_
  ·intro hlt;replace hlt := dtl hlt;obtain ⟨x, hx⟩ : ∃ x, l[k]? = some x := ⟨_, List.getElem?_eq_getElem hlt⟩;have hxm := List.mem_of_getElem? hx;have hxs := List.sizeOf_lt_of_mem hxm;have hKx := hK.mem hxm;have hat := bA (f := aW) hx;have htk : l.take (k + 1) = l.take k ++ [x] := by rw [List.take_add_one, hx]; rfl
   have hsp : l = l.take k ++ (x :: l.drop (k + 1)) := by have h1 := List.take_append_drop (k + 1) l; rw [htk, List.append_assoc] at h1; exact h1.symm
   have hcx := p9 (l.take k) (x :: l.drop (k + 1));rw [← hsp] at hcx;have hkc := oJ (l.take k);have hEl := FW env (l.take k);obtain ⟨sk, sn, ty, nm, es, th, el⟩ := x;simp only [CO] at hKx;obtain ⟨s2, s3, s4, s5, s6, s7⟩ := hKx;have hspec := Stmt.mk.sizeOf_spec sk sn ty nm es th el;simp only [aW, bf, aX] at hat;rw [dF, lG] at hcx;have hno2 : pI p.classes inn ret (jl env (l.take k)) ⟨sk, sn, ty, nm, es, th, el⟩ = false → dR p.classes inn ret env l = false := fun h => by
    rw [hsp, vT, hyes, Bool.true_and, dR, h, Bool.false_and]
   generalize hE : jl env (l.take k) = E at *;have hf6 : M (b + 6) = none := hfar 6;have hf24 : M (b + 24) = none := hfar 24;have hkl1 : (es.length : Int) ≤ 9223372036854775807 := by omega
   have hkb : es.length * 16 ≤ 140737488355328 := by omega
   refine W.bl ?_;refine zm8 ?_;refine aA (by simp only [exb, simprocAttr, hat, hf6, hc0, he, cb, bc, eb, be, ce, ec, Nat.add_left_cancel_iff, Nat.add_eq_left, Nat.left_eq_add, upd_same]; rfl) ?_;simp only [bS];refine W.bl ?_;refine zm8 ?_;refine aA (by simp only [exb, simprocAttr, upd_same, hf24, hc0, he, cb, bc, eb, be, ce, ec, Nat.add_left_cancel_iff, Nat.add_eq_left, Nat.left_eq_add, List.length_map, hkl1, hkb, Int.toNat_natCast, Int.natCast_nonneg, and_self, Bool.false_eq_true]; rfl) ?_;refine W.bl ?_;refine zm8 ?_;refine aA (by simp only [exb, simprocAttr, upd_same, hc0, he, cb, bc, eb, be, ce, ec, Nat.add_left_cancel_iff, Nat.add_eq_left, Nat.left_eq_add, List.length_map]; rfl) ?_;refine W.bl ?_;have htyp := NR p inn ret E hS hB hlen (by omega) hchk;have hls : xJ (upd (upd (upd M e (some (.mrow 46 2 (E.map aJ)))) (b + 6) none) (b + 24) none) [.c (.sl (p.classes.map au)), .c (.sl (aO p.main)), .c (.str inn), .c (.str ret), .own e] = some (ckC p.classes p.main inn ret E) := by
    simp only [xJ, asL, asC, ak, eb, if_false, if_true, eq_self, ckC]
   refine W.loop (ι := List ByteArray) (fun ts => ⟨upd (upd (upd (upd (upd (upd (upd (upd (upd (upd (fun _ => .top) 0 (.ptr c0 0)) 4 (.c (.int .i64 env.length))) 6 (.ptr (b + 6) 0)) 7 (.own (b + 24))) 15 (.c (.sl (l.map aW)))) 16 (.c (.int .i64 l.length))) 17 (.c (.int .i64 k))) 26 (.c (.sl (es.map cExpr)))) 27 (.c (.int .i64 es.length))) 28 (.c (.int .i64 ts.length)),
    upd (upd (upd M e (some (.mrow 46 2 (E.map aJ)))) (b + 6) (some (.box 37 [.c (.int .i64 sk), .c (.int .i64 sn), .c (.str ty), .c (.str nm), .c (.sl (es.map cExpr)), .c (.sl (th.map aW)), .c (.sl (el.map aW))]))) (b + 24) (some (.mrow 9 1 (uz ts es.length)))⟩)
    (fun ts => ts.length ≤ es.length ∧ gU p.classes inn E (es.take ts.length) = some ts) (fun ts => es.length - ts.length) [] ?start2 ⟨Nat.zero_le _, by simp [gU]⟩ ?round2
   case start2 =>
    rw [BP];exact YU
   case round2 =>
    rintro ts ⟨hk, hall⟩;refine zm3 ?_;refine W.cond rfl ?_ ?_
    ·intro hlt2;replace hlt2 := dtl hlt2;obtain ⟨y, hy⟩ : ∃ y, es[ts.length]? = some y := ⟨_, List.getElem?_eq_getElem hlt2⟩;have hym := List.mem_of_getElem? hy;have hT := htyp (SizeOf.sizeOf y) y (Nat.le_refl _) (s5.mem hym);have htk2 : es.take (ts.length + 1) = es.take ts.length ++ [y] := by rw [List.take_add_one, hy]; rfl
     have happ := o9 p.classes inn E (es.take ts.length) y hall;rw [← htk2] at happ;have hrl := Gf (ts := ts) (n := es.length) (by omega);have hlt' : ts.length < (uz ts es.length).length := by omega
     have hat2 := bA (f := cExpr) hy;obtain ⟨yk, yn, ym, ys⟩ := y;simp only [cExpr, aX] at hT hat2;have hf9 : M (b + 9) = none := hfar 9;refine W.bl ?_;refine zm8 ?_;refine aA (by simp only [exb, simprocAttr, hat2, hf9, hc0, he, cb, bc, eb, be, ce, ec, Nat.add_left_cancel_iff, Nat.add_eq_left, Nat.left_eq_add, upd_same]; rfl) ?_;simp only [bS];refine W.bl ?_;cases ht : pX p.classes inn E ⟨yk, yn, ym, ys⟩ with
     | some t =>
       rw [ht] at happ;have hT1 : ∀ m, COk Tryz.prog 70 [.rptr (ckC p.classes p.main inn ret E), .agg [.int .i64 yk, .int .i64 yn, .str ym, .sl (ys.map cExpr)]] m (.c (.str t)) := fun m => by have := hT m; rw [ht] at this; exact this
       refine zm8 ?_;refine aj 4 Ak ?_;refine fJ rfl rfl rfl rfl rfl (by simp) (bM (nM Kn Qv) (bM fO gJ)) (by rfl) (by rfl) hT1 ?_;refine aA (by simp only [exb, simprocAttr, hlt', Jz hlt2, wM hlt2, hc0, he, cb, bc, eb, be, ce, ec, Nat.add_left_cancel_iff, Nat.add_eq_left, Nat.left_eq_add, upd_same]; rfl) ?_;refine zm3 ?_;refine YP ?_;refine dU ?sle ?mle ?swf ?mwf (fun i hi => by repeat (first | exact kept i hi | refine cO i ?_)) (by rfl)
       case swf => repeat (first | exact bP _ | refine bQ ?_ ab3)
       case mwf => repeat (first | exact hWF | refine dH ?_ (fun i hi => by simp [O.ids, A.ids] at hi))
       case mle => exact Sc (by simp) (by simp) (fun h => cast (be 9) h) (fun h => cast (be 6) h) hf9
       case sle => repeat (first | exact aM _ | exact aH _ | refine aL ?_ (by first | rfl | (simp only [ak, bB, A.kill, aD, aC, Nat.reduceEqDiff, reduceIte, List.length_append, List.length_singleton, aP (show ts.length + 1 < 9223372036854775808 by omega)]; done)))
     | none =>
       rw [ht] at happ;have htn : gU p.classes inn E es = none := by
        have := uS p.classes inn E (es.take (ts.length + 1)) (es.drop (ts.length + 1)) happ
        rwa [List.take_append_drop] at this
       have hbf := hno2 (by simp only [pI, htn, Bool.false_and]);obtain rfl : r = none := hr.symm.trans Mv;have hTx : ∀ m, XOk Tryz.prog 70 [.rptr (ckC p.classes p.main inn ret E), .agg [.int .i64 yk, .int .i64 yn, .str ym, .sl (ys.map cExpr)]] m fU := fun m => by have := hT m; rw [ht] at this; exact this
       refine W.tK (base := b) (ch := fU) ah 4 (by decide) rfl ?_;refine aA Ak ?_;exact ⟨_, Bt rfl rfl rfl rfl yC (bM (nM Kn Qv) (bM fO gJ)) hTx, rfl, by rfl, (MN KY)⟩
    ·intro hge2;replace hge2 := dnl hge2;have htl : ts.length = es.length := by omega
     rw [htl, List.take_length] at hall;rw [Dj htl];have hst0 : kr p.classes inn ret E sk ty ts = false → r = none := fun h => by
      have hbf := hno2 (by simp only [pI, hall, h, Bool.false_and]);exact hr.symm.trans Mv
     have hlen9 : p.classes.length ≤ 1000000000 := by omega
     have hkn : ∀ t m, COk Tryz.prog 20 [.rptr (ckC p.classes p.main inn ret E), .c (.str t)] m (.c (.bool (bJ p.classes t))) := fun t m => qZ p.classes [.sl (aO p.main), .str inn, .str ret, .sl (E.map aJ)] t hlen9 m
     have hfi : ∀ t u m, COk Tryz.prog 71 [.rptr (ckC p.classes p.main inn ret E), .c (.str t), .c (.str u)] m (.c (.bool (mY 0 p.classes t u))) := fun t u m => zB p 0 [.str inn, .str ret, .sl (E.map aJ)] t u hlen9 hchk m
     refine Zq ?_;refine zm8 ?_;refine aA Ak ?_;refine W.join (X := ⟨upd (upd (upd (upd (upd (upd (upd (fun _ => .top) 0 (.ptr c0 0)) 4 (.c (.int .i64 env.length))) 6 (.ptr (b + 6) 0)) 7 (.own (b + 24))) 15 (.c (.sl (l.map aW)))) 16 (.c (.int .i64 l.length))) 17 (.c (.int .i64 k)), upd (upd (upd M e (some (.mrow 46 2 (E.map aJ)))) (b + 6) (some (.box 37 [.c (.int .i64 sk), .c (.int .i64 sn), .c (.str ty), .c (.str nm), .c (.sl (es.map cExpr)), .c (.sl (th.map aW)), .c (.sl (el.map aW))]))) (b + 24) (some (.mrow 9 1 (ts.map cStr)))⟩) (Y := kr p.classes inn ret E sk ty ts = true) ?sw ?rest
     case sw =>
      refine W.bl ?_;refine zm8 ?_;refine xe0 ?_;refine W.cond rfl ?_ ?_
      ·intro h;simp only [decide_eq_true_eq] at h;subst h;cases hk1 : bJ p.classes ty with
       | false =>
         obtain rfl : r = none := hst0 (by simp [kr, hk1]);have hkn1 := hkn ty;rw [hk1] at hkn1;refine W.bl ?_;refine X7 ?_;refine QT ?_;exact aa7
       | true =>
         have hkn1 := hkn ty;rw [hk1] at hkn1;refine W.bl ?_;cases ts with
         | nil =>
           refine yZ ?_;refine QT ?_;refine aj 14 (by simp only [exb, simprocAttr, hc0, he, cb, bc, eb, be, ce, ec, Nat.add_left_cancel_iff, Nat.add_eq_left, Nat.left_eq_add, upd_same, List.map_nil, List.length_nil]; rfl) ?_;refine zm7 ?_;refine ⟨by simp [kr, hk1], ?_⟩;exact YU
         | cons t0 tr =>
           have hz2 : (0 < tr.length + 1) = True := eq_true (Nat.succ_pos _);have hz : (((tr.length + 1 : Nat) : Int) = 0) = False := eq_false (by omega);have hfi1 := hfi t0 ty;cases hf : mY 0 p.classes t0 ty with
           | true =>
             rw [hf] at hfi1;refine yZ ?_;refine QT ?_;refine aj 11 aaM ?_;refine zm9 ?_;refine aj 2 Ak ?_;refine zm7 ?_;refine ⟨by simp [kr, hk1, hdT, hf], ?_⟩;exact YU
           | false =>
             rw [hf] at hfi1;obtain rfl : r = none := hst0 (by simp [kr, hk1, hdT, hf]);refine X7 ?_;refine QT ?_;refine aj 11 aaM ?_;refine zm9 ?_;exact aa7
      ·intro h1;simp only [decide_eq_false_iff_not] at h1;refine W.bl ?_;refine zm8 ?_;refine xe0 ?_;refine W.cond rfl ?_ ?_
       ·intro h;simp only [decide_eq_true_eq] at h;subst h;have k2 := s2 rfl;obtain ⟨ta, tb, rfl⟩ : ∃ a b, ts = [a, b] := by
         exact Ue
        have hfi1 := hfi tb ta;have h12 : ((1 : Nat) < 2) = True := eq_true (by decide);have h02 : ((0 : Nat) < 2) = True := eq_true (by decide);refine W.bl ?_;cases hf : mY 0 p.classes tb ta with
        | true =>
          rw [hf] at hfi1;refine yZ ?_;refine aj 7 Zo ?_;refine zm9 ?_;refine aj 0 Ak ?_;refine zm7 ?_;refine ⟨by simp [kr, hdT, hf], ?_⟩;exact YU
        | false =>
          rw [hf] at hfi1;obtain rfl : r = none := hst0 (by simp [kr, hdT, hf]);refine W.yh (base := b) (ch := fU) ah 8 [72, 1000000] bC (by kernel_rfl) (by decide) rfl ?_;refine aj 7 Zo ?_;refine zm9 ?_;refine aA Ak ?_;intro st' hs hm;refine ⟨_, jM rfl rfl rfl rfl yC (bg (.inl (hs 72 (by decide)).symm) jL) (nI _), rfl, ?_, ?_⟩
          ·exact Om
          ·rw [hm]; exact (MN KY)
       ·intro h2;simp only [decide_eq_false_iff_not] at h2;refine W.bl ?_;refine zm8 ?_;refine xe0 ?_;have three : ∀ h3 : sk = 3 ∨ sk = 4 ∨ sk = 5, True := fun _ => trivial
        refine W.cond rfl ?_ ?_
        ·intro h;have h3 : sk = 3 ∨ sk = 4 ∨ sk = 5 := .inl (by simpa using h);exact zt7
        ·intro h;have n3 : ¬ sk = 3 := by simpa using h
         refine W.bl ?_;refine zm8 ?_;refine xe0 ?_;refine W.cond rfl ?_ ?_
         ·intro h;have h3 : sk = 3 ∨ sk = 4 ∨ sk = 5 := .inr (.inl (by simpa using h));exact zt7
         ·intro h;have n4 : ¬ sk = 4 := by simpa using h
          refine W.bl ?_;refine zm8 ?_;refine xe0 ?_;refine W.cond rfl ?_ ?_
          ·intro h;have h3 : sk = 3 ∨ sk = 4 ∨ sk = 5 := .inr (.inr (by simpa using h));have k3 := s3 (by omega);obtain ⟨t0, tr, rfl⟩ : ∃ t0 tr, ts = t0 :: tr := by
            exact TL
           have hz2 : (0 < tr.length + 1) = True := eq_true (Nat.succ_pos _);have hsT : kr p.classes inn ret E sk ty (t0 :: tr) = isT t0 bO := by rcases h3 with rfl | rfl | rfl <;> simp [kr, hdT]
           refine W.bl ?_;cases hi : isT t0 bO with
           | true =>
             have hi0 := hi;unfold isT at hi;refine zm8 ?_;refine aj 4 WX ?_;refine zm7 ?_;refine ⟨by rw [hsT, hi0], ?_⟩;exact YU
           | false =>
             exact Qc
          ·intro h;have n5 : ¬ sk = 5 := by simpa using h
           refine W.bl ?_;refine zm8 ?_;refine xe0 ?_;refine W.cond rfl ?_ ?_
           ·intro h;simp only [decide_eq_true_eq] at h;subst h;have k3 := s3 (by omega);obtain ⟨t0, tr, rfl⟩ : ∃ t0 tr, ts = t0 :: tr := by
             exact TL
            have hz2 : (0 < tr.length + 1) = True := eq_true (Nat.succ_pos _);refine W.bl ?_;cases hi : isT ret tNo with
            | true =>
              obtain rfl : r = none := hst0 (by simp [kr, hi]);unfold isT at hi;have hi2 := hi;rw [eG] at hi2;refine Xu ?_;refine aA (by simp only [exb, simprocAttr, hc0, he, cb, bc, eb, be, ce, ec, Nat.add_left_cancel_iff, Nat.add_eq_left, Nat.left_eq_add, upd_same, hi, hi2]; rfl) ?_;exact ZE
            | false =>
              have hi0 := hi;unfold isT at hi;have hi2 := hi;rw [eG] at hi2;have hfi1 := hfi t0 ret;cases hf : mY 0 p.classes t0 ret with
              | true =>
                rw [hf] at hfi1;refine yZ ?_;refine aj 14 zq9 ?_;refine zm9 ?_;refine aj 1 Ak ?_;refine zm7 ?_;refine ⟨by simp [kr, hi0, hdT, hf], ?_⟩;exact YU
              | false =>
                rw [hf] at hfi1;obtain rfl : r = none := hst0 (by simp [kr, hdT, hf]);refine Xu ?_;refine aj 14 zq9 ?_;refine zm9 ?_;refine aA Ak ?_;exact ZE
           ·intro h;have n6 : ¬ sk = 6 := by simpa using h
            refine W.bl ?_;refine ⟨by simp [kr, h1, h2, n3, n4, n5, n6], ?_⟩;exact YU
     case rest =>
      intro hst;have hlk : (l.take k).length = k := by rw [List.length_take]; omega
      have far2 : ∀ (x y z : Option O) d, (upd (upd (upd M e x) (b + 6) y) (b + 24) z) (b + 200 + d) = none := fun x y z d => by
       rw [upd_ne _ _ (by omega), upd_ne _ _ (by omega), upd_ne _ _ (fun h => cast (be (200 + d)) (by rw [← Nat.add_assoc]; exact h)), Nat.add_assoc]; exact hfar _
      have atc : ∀ (x y z : Option O), (upd (upd (upd M e x) (b + 6) y) (b + 24) z) c0 = some (.box 64 [.c (.sl (p.classes.map au)), .c (.sl (aO p.main)), .c (.str inn), .c (.str ret), .own e]) := fun x y z => by
       rw [upd_ne _ _ (fun h => cast (cb 24) h), upd_ne _ _ (fun h => cast (cb 6) h), upd_ne _ _ (fun h => cast ce h)]; exact hc0
      have ate : ∀ (x y z : Option O), (upd (upd (upd M e x) (b + 6) y) (b + 24) z) e = x := fun x y z => by
       rw [upd_ne _ _ (fun h => cast (eb 24) h), upd_ne _ _ (fun h => cast (eb 6) h), upd_same]
      have hno3 : ∀ (x y z : O), (x.ids = [] ∧ O.kill e x = x) → (y.ids = [] ∧ O.kill e y = y) → (z.ids = [] ∧ O.kill e z = z) → ∀ i o, (upd (upd (upd M e (some x)) (b + 6) (some y)) (b + 24) (some z)) i = some o → i ≠ c0 → c0 ∉ o.ids ∧ e ∉ o.ids ∧ O.kill e o = o := fun x y z hx hy hz i o ho hi => by
       unfold upd at ho;split at ho
       ·cases ho; exact ⟨by rw [hz.1]; simp, by rw [hz.1]; simp, hz.2⟩
       ·split at ho
        ·cases ho; exact ⟨by rw [hy.1]; simp, by rw [hy.1]; simp, hy.2⟩
        ·split at ho
         ·cases ho; exact ⟨by rw [hx.1]; simp, by rw [hx.1]; simp, hx.2⟩
         ·exact hno i o ho hi
      refine W.bl ?_;cases hth : dR p.classes inn ret E th with
      | false =>
        have hT := ih (SizeOf.sizeOf th) (by omega) th (Nat.le_refl _) s6 E (by omega) _ (b + 200) c0 e (far2 (some (.mrow 46 2 (E.map aJ))) (some (.box 37 [.c (.int .i64 sk), .c (.int .i64 sn), .c (.str ty), .c (.str nm), .c (.sl (es.map cExpr)), .c (.sl (th.map aW)), .c (.sl (el.map aW))])) (some (.mrow 9 1 (ts.map cStr)))) (atc _ _ _) (ate _ _ _) (hno3 _ _ _ ⟨rfl, rfl⟩ ⟨by simp [O.ids, A.ids], rfl⟩ ⟨rfl, rfl⟩);rw [hth] at hT;have hbf := hno2 (by simp only [pI, hall, hst, hth, Bool.true_and, Bool.false_and]);exact aaX
      | true =>
        have hT := ih (SizeOf.sizeOf th) (by omega) th (Nat.le_refl _) s6 E (by omega) _ (b + 200) c0 e (far2 (some (.mrow 46 2 (E.map aJ))) (some (.box 37 [.c (.int .i64 sk), .c (.int .i64 sn), .c (.str ty), .c (.str nm), .c (.sl (es.map cExpr)), .c (.sl (th.map aW)), .c (.sl (el.map aW))])) (some (.mrow 9 1 (ts.map cStr)))) (atc _ _ _) (ate _ _ _) (hno3 _ _ _ ⟨rfl, rfl⟩ ⟨by simp [O.ids, A.ids], rfl⟩ ⟨rfl, rfl⟩);rw [hth] at hT;refine aaI ?_;refine bW (D := [e]) rfl rfl rfl rfl rfl (fun j hj => by simp at hj; subst hj; exact nke) (by simp) cw2 hT ?_;simp only [dw, eY];refine xe0 ?_;refine W.weaken (st' := ⟨upd (upd (upd (upd (upd (upd (upd (fun _ => .top) 0 (.ptr c0 0)) 4 (.c (.int .i64 env.length))) 6 (.ptr (b + 6) 0)) 7 (.own (b + 24))) 15 (.c (.sl (l.map aW)))) 16 (.c (.int .i64 l.length))) 17 (.c (.int .i64 k)), upd (upd (upd M e (some (.mrow 46 2 (E.map aJ)))) (b + 6) (some (.box 37 [.c (.int .i64 sk), .c (.int .i64 sn), .c (.str ty), .c (.str nm), .c (.sl (es.map cExpr)), .c (.sl (th.map aW)), .c (.sl (el.map aW))]))) (b + 24) (some (.mrow 9 1 (ts.map cStr)))⟩) ?le ?_
        case le =>
         exact G7
        clear hT;cases hel2 : dR p.classes inn ret E el with
        | false =>
          have hT := ih (SizeOf.sizeOf el) (by omega) el (Nat.le_refl _) s7 E (by omega) _ (b + 200) c0 e (far2 (some (.mrow 46 2 (E.map aJ))) (some (.box 37 [.c (.int .i64 sk), .c (.int .i64 sn), .c (.str ty), .c (.str nm), .c (.sl (es.map cExpr)), .c (.sl (th.map aW)), .c (.sl (el.map aW))])) (some (.mrow 9 1 (ts.map cStr)))) (atc _ _ _) (ate _ _ _) (hno3 _ _ _ ⟨rfl, rfl⟩ ⟨by simp [O.ids, A.ids], rfl⟩ ⟨rfl, rfl⟩);rw [hel2] at hT;have hbf := hno2 (by simp only [pI, hall, hst, hth, hel2, Bool.true_and, Bool.and_false]);exact aaX
        | true =>
          have hT := ih (SizeOf.sizeOf el) (by omega) el (Nat.le_refl _) s7 E (by omega) _ (b + 200) c0 e (far2 (some (.mrow 46 2 (E.map aJ))) (some (.box 37 [.c (.int .i64 sk), .c (.int .i64 sn), .c (.str ty), .c (.str nm), .c (.sl (es.map cExpr)), .c (.sl (th.map aW)), .c (.sl (el.map aW))])) (some (.mrow 9 1 (ts.map cStr)))) (atc _ _ _) (ate _ _ _) (hno3 _ _ _ ⟨rfl, rfl⟩ ⟨by simp [O.ids, A.ids], rfl⟩ ⟨rfl, rfl⟩);rw [hel2] at hT;refine aaI ?_;refine bW (D := [e]) rfl rfl rfl rfl rfl (fun j hj => by simp at hj; subst hj; exact nke) (by simp) cw2 hT ?_;simp only [dw, eY];refine xe0 ?_;refine W.weaken (st' := ⟨upd (upd (upd (upd (upd (upd (upd (fun _ => .top) 0 (.ptr c0 0)) 4 (.c (.int .i64 env.length))) 6 (.ptr (b + 6) 0)) 7 (.own (b + 24))) 15 (.c (.sl (l.map aW)))) 16 (.c (.int .i64 l.length))) 17 (.c (.int .i64 k)), upd (upd (upd M e (some (.mrow 46 2 (E.map aJ)))) (b + 6) (some (.box 37 [.c (.int .i64 sk), .c (.int .i64 sn), .c (.str ty), .c (.str nm), .c (.sl (es.map cExpr)), .c (.sl (th.map aW)), .c (.sl (el.map aW))]))) (b + 24) (some (.mrow 9 1 (ts.map cStr)))⟩) ?le ?_
          case le =>
           exact G7
          clear hT;refine W.bl ?_;refine zm8 ?_;refine aA Ak ?_;have hyes2 : dR p.classes inn ret env (l.take (k + 1)) = true := by
           rw [htk, vT, hyes, hE, Bool.true_and];simp only [dR, pI, hall, hst, hth, hel2, Bool.and_true]
          refine W.cond rfl ?_ ?_
          ·intro h;simp only [decide_eq_true_eq] at h;subst h;have hE2 : jl env (l.take (k + 1)) = E ++ [⟨ty, nm⟩] := by rw [htk, yc, hE]; rfl
           refine W.bl ?_;refine W.lZ ah bC ⟨upd (upd (upd (upd (upd (fun _ => .top) 0 (.ptr c0 0)) 4 (.c (.int .i64 env.length))) 15 (.c (.sl (l.map aW)))) 16 (.c (.int .i64 l.length))) 17 (.c (.int .i64 k)), upd M e (some (.mrow 46 2 ((E ++ ([⟨ty, nm⟩] : List Slot)).map aJ)))⟩ ?_ ?_;refine lN (base := b) ah (by decide) aK 0 rfl rfl rfl aK aK ⟨_, Bu, ?_⟩;refine sQ (base := b) ah (by decide) ?_;refine aN 1 aK ⟨_, Bu, ?_⟩;refine aN 2 aK ⟨_, Bu, ?_⟩;refine aN 3 aK ⟨_, Bu, ?_⟩;refine aN 4 aK ⟨_, Bu, ?_⟩;refine aN 5 aK ⟨_, Bu, ?_⟩;refine aN 6 aK ⟨_, Bu, ?_⟩;refine aN 7 aK ⟨_, Bu, ?_⟩;refine aN 8 aK ⟨_, Bu, ?_⟩;refine aN 9 aK ⟨_, Bu, ?_⟩;refine aN 10 aK ⟨_, Bu, ?_⟩;refine bY [11] aK (by decide) ?_;refine step_append ah rfl e false rfl rfl rfl rfl rfl rfl (by simp only [exb, simprocAttr, hc0, he, cb, bc, eb, be, ce, ec, Nat.add_left_cancel_iff, Nat.add_eq_left, Nat.left_eq_add, upd_same, dW]; done) aaH aaH rfl rfl rfl rfl nke (fun z hz => by simp at hz; subst hz; rfl) xq (by decide) ?_ ?_
           ·skip;refine aN 12 aK ⟨_, zq7, ?_⟩;refine aN 13 aK ⟨_, zq7, ?_⟩;refine aN 14 aK ⟨_, zq7, ?_⟩;refine kI aK ?_;refine dU ?sle ?mle ?swf ?mwf (fun i hi => by repeat (first | exact kept i hi | refine cO i ?_)) (by rfl)
            case swf => repeat (first | exact bP _ | refine bQ ?_ (by simp [A.ids, ak, aB, hc0, he, cb, bc, eb, be, ce, ec, Nat.add_left_cancel_iff]))
            case mwf => exact dH hWF (fun i hi => by simp [O.ids, A.ids] at hi)
            case mle =>
             intro u;by_cases h1 : u = e
             ·subst h1; right; simp [ak, aB, ec, dW, List.map_append, aJ]
             by_cases h2 : u = c0
             ·subst h2; right; simp [ak, aB, ce, hc0, ckC]
             cases ho : M u with
             | none => left; simp [ak, h1, ho]
             | some o =>
               have h3 : ¬ u = b + 6 := fun h => by subst h; rw [hf6] at ho; cases ho
               have h4 : ¬ u = b + 24 := fun h => by subst h; rw [hf24] at ho; cases ho
               right; simp [ak, h1, h2, h3, h4, aB, ho, (hno u o ho h2).2.2]
            case sle => repeat (first | exact aM _ | exact aH _ | refine aL ?_ (by first | rfl | (simp only [ak, bB, A.kill, aD, aC, Nat.reduceEqDiff, reduceIte, ce]; done)))
           ·trivial
           ·intro st' hle;refine W.weaken hle ?_;clear hle st';refine zm3 ?_;refine ⟨k + 1, ⟨hlt, hyes2⟩, by omega, ?_⟩;rw [hE2];refine dU ?sle ?mle ?swf ?mwf (fun i hi => by repeat (first | exact kept i hi | refine cO i ?_)) (by rfl)
            case swf => repeat (first | exact bP _ | refine bQ ?_ ab3)
            case mwf => exact dH hWF (fun i hi => by simp [O.ids, A.ids] at hi)
            case mle => exact aF _
            case sle => repeat (first | exact aM _ | exact aH _ | refine aL ?_ OD)
          ·intro h;simp only [decide_eq_false_iff_not] at h;have hE2 : jl env (l.take (k + 1)) = E := by rw [htk, yc, hE]; simp [h]
           refine zm3 ?_;refine ⟨k + 1, ⟨hlt, hyes2⟩, by omega, ?_⟩;rw [hE2];refine dU ?sle ?mle ?swf ?mwf (fun i hi => by repeat (first | exact kept i hi | refine cO i ?_)) (by rfl)
           case swf => repeat (first | exact bP _ | refine bQ ?_ ab3)
           case mwf => repeat (first | exact hWF | refine dH ?_ (fun i hi => by simp [O.ids, A.ids] at hi))
           case mle => exact gY (gY (aF _) ((upd_ne (f := M) (t := e) (u := b + 6) _ (fun h => cast (be 6) h)).trans hf6)) ((upd_ne (f := M) (t := e) (u := b + 24) _ (fun h => cast (be 24) h)).trans hf24)
           case sle => repeat (first | exact aM _ | exact aH _ | refine aL ?_ OD)
  ·intro hge;replace hge := dnl hge;obtain rfl : k = l.length := by omega
   rw [List.take_length] at hyes ⊢;obtain ⟨tE, htE⟩ := O5 env l;have hr0 : F3 M (dR p.classes inn ret env l) = some (.tup [], M) := by unfold F3; rw [hyes]; rfl
   obtain rfl : r = _ := hr.symm.trans hr0;have hle2 : env.length ≤ env.length + tE.length := Nat.le_add_right _ _;have hle3 : (0 ≤ env.length ∧ env.length ≤ env.length + tE.length) = True := eq_true ⟨Nat.zero_le _, hle2⟩;have hle4 : (0 ≤ env.length) = True := eq_true (Nat.zero_le _);rw [htE];refine Zq ?_;refine W.Ee c0 4 e (fun h => cast ce h) nke ?_;refine zm8 ?_;refine aA (by simp only [exb, simprocAttr, hc0, he, cb, bc, eb, be, ce, ec, Nat.add_left_cancel_iff, Nat.add_eq_left, Nat.left_eq_add, upd_same, List.length_map, List.length_append, Int.toNat_natCast, Int.natCast_nonneg, hle2, hle3, hle4]; rfl) ?_;refine ⟨_, _, _, _, _, _, _, upd_same .., rfl, (upd_ne _ _ (fun h => cast ec h)).trans (upd_same ..), by simp, .inl rfl, by rfl, by rfl, ?_⟩;intro u;by_cases h1 : u = c0
   ·subst h1; right; simp [ak, hc0, A.kill]
   by_cases h2 : u = e
   ·subst h2; right; simp [ak, ec, he]
   cases ho : M u with
   | none => left; rfl
   | some o => right; simp [ak, h1, h2, aB, ho, (hno u o ho h1).2.2]
end
end V
end Go.Proofs.YtgaipdillmleeaaGreat
end
