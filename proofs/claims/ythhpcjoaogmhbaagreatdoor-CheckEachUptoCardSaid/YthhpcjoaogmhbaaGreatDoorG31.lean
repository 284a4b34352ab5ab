/- Joined by my own program, in build order: Cchk, Cfld, Cexp, Cfld2, Vtree, Cmth, Bulk2, Veff, Vpor, Vpan, Vpan2, Vy, Vz, Plain, Plain2, Chks, Order, Fit7, CP, Mu, Pk, Eq2, Vnil, Vmap, Frzb, Ty. -/
import Derived.Test.YthhpcjoaogmhbaaGreatDoorG30
import Derived.Test.YthhpcjoaogmhbaaGreatDoorG16
import Derived.Test.YthhpcjoaogmhbaaGreatDoorG17
set_option linter.unusedVariables false
set_option linter.unusedSimpArgs false
section
namespace Go.Proofs.YthhpcjoaogmhbaaGreatDoor
namespace V
open Go.RowKit
theorem Jw (cs : List Class) (mn : C) (c : Class) (hS : gN cs) (hlen : cs.length ≤ 16) (hc : c ∈ cs) (m : Mem) : COk Tryz.prog 28 [.agg (ay c), .rptr [.sl (cs.map ay), mn]] m (.c (.bool (!dB cs c))) := by
 refine (cB ah Tryz.func28 (by kernel_rfl) rfl rfl (by rfl) (by rfl) (by rfl) (fun R hkeep => ?_) m)
 repeat (first | refine W.q ?_ | refine W.g ?_ sI)
 refine W.ak ah 0 (by decide) ?_
 refine aj 2 sI ?_
 refine au rfl rfl rfl rfl rfl (by simp) cw2 (NJ cs mn c hS hlen hc _) ?_
 refine xe0 ?_
 refine W.rt ?_;simp only [Tryz.f28, bE, aD, toT, fin, exb, simprocAttr]
def cu (e : Int) (cs : List Class) : Int :=
 if e = 0 then (if 16 < cs.length then 6 else if jZ (cs.map (·.name)) = false then 60 else if cs.any (fun c => !dB cs c) = true then 60 else 0) else e
set_option maxHeartbeats 1000000 in
theorem K3 (p : Program) (e : Int) (hS : gN p.classes) (hlen : p.classes.length ≤ 1000000000) (hck : ∀ m, COk Tryz.prog 25 [.agg (dz p)] m (.c (.int .i64 e))) (m : Mem) :
 COk Tryz.prog 12 [.agg (dz p)] m (.c (.int .i64 (cu e p.classes))) := by
 obtain ⟨cs, mn⟩ := p
 dsimp only at hS hlen hck ⊢
 refine (cB ah Tryz.func12 (by kernel_rfl) rfl rfl (by rfl) (by rfl) (by rfl) (fun R hkeep => ?_) m)
 repeat (first | refine W.q ?_ | refine W.g ?_ jA)
 refine W.ak ah 0 (by decide) ?_
 refine aj 1 jA ?_
 refine au rfl rfl rfl rfl rfl (by simp) cw1 (hck _) ?_
 refine xe0 ?_
 refine W.go ?_
 refine W.cond rfl ?_ ?_
 ·intro h
  have he : e ≠ 0 := by simpa using h
  refine W.go ?_
  refine W.rt ?_
  simp only [Tryz.f12, bE, aD, toT, fin, exb, simprocAttr]
  simp [cu, he]
 intro h
 have he : e = 0 := by simpa using h
 subst he
 refine W.go ?_
 refine W.cond rfl ?_ ?_
 ·intro h
  have hl : 16 < cs.length := by simp at h; omega
  refine W.go ?_
  refine W.rt ?_
  simp only [Tryz.f12, bE, aD, toT, fin, exb, simprocAttr]
  simp [cu, hl]
 intro h
 have hl : ¬ 16 < cs.length := by simp at h; omega
 refine W.go ?_
 refine W.Ap 4 4 9 1 rfl rfl ?_
 refine W.go ?_
 refine W.loop (ι := Nat) (fun k => ⟨upd (upd (upd (upd (upd (fun _ => .top) 1 (.ptr 1 0)) 4 (.own 4)) 17 (.c (.sl (cs.map ay)))) 18 (.c (.int .i64 cs.length))) 19 (.c (.int .i64 k)),
  upd (upd Mem.nil 1 (some (.box 25 ((dz ⟨cs, mn⟩).map A.c)))) 4 (some (.arr 9 1 (((cs.take k).map (·.name)).map cStr)))⟩) (fun k => k ≤ cs.length) (fun k => cs.length - k) 0 ?start (Nat.zero_le _) ?round
 case start =>
  refine nK ?sle ?mle (aI hkeep)
  case mle => repeat (first | exact aZ _ | exact aC _ | refine aY ?_ (by first | rfl | (simp only [av, aL, Nat.reduceEqDiff, reduceIte, dz, List.map_cons, List.map_nil, List.take_zero]; done)))
  case sle => repeat (first | exact aQ _ | exact aK _ | refine aP ?_ (by first | rfl | (simp only [av, aN, aO, Nat.reduceEqDiff, reduceIte, dz, List.map_cons, List.map_nil, List.take_zero]; done)))
 case round =>
  intro k hk
  repeat (first | refine W.q ?_ | refine W.g ?_ jA)
  refine W.cond rfl ?_ ?_
  ·intro hlt
   replace hlt := dtl hlt
   obtain ⟨x, hx⟩ : ∃ x, cs[k]? = some x := ⟨_, List.getElem?_eq_getElem hlt⟩
   repeat (first | refine W.q ?_ | refine W.g ?_ (by simp only [exb, simprocAttr, dz, cZ hx, ay]; rfl))
   refine W.ak ah 0 (by decide) ?_
   refine aj 4 jA ?_
   refine fu ah 4 rfl rfl rfl rfl rfl rfl rfl rfl (by first | rfl | (simp only [exb, simprocAttr, dz]; rfl)) rfl rfl rfl rfl (ku hkeep) (by simp) (by have := List.length_take_le k cs; simp only [List.length_map, List.length_cons, List.length_nil]; omega) (by decide) ?_
   refine aA jA ?_
   repeat (first | refine W.q ?_ | refine W.g ?_ jA)
   refine ⟨k + 1, hlt, by omega, ?_⟩
   refine nK ?sle ?mle (aI hkeep)
   case mle => repeat (first | exact aZ _ | exact aC _ | refine aY ?_ (by first | rfl | (simp only [av, aL, Nat.reduceEqDiff, reduceIte, dz, O.kill, A.kill, Option.map_some, aR (show k + 1 < 9223372036854775808 by omega), List.take_add_one, hx, Option.toList_some, List.map_append, List.map_cons, List.map_nil, cStr]; done)))
   case sle => repeat (first | exact aQ _ | exact aK _ | refine aP ?_ (by first | rfl | (simp only [av, aN, aO, Nat.reduceEqDiff, reduceIte, dz, O.kill, A.kill, Option.map_some, aR (show k + 1 < 9223372036854775808 by omega), List.take_add_one, hx, Option.toList_some, List.map_append, List.map_cons, List.map_nil, cStr]; done)))
  ·intro hge
   replace hge := dnl hge
   obtain rfl : k = cs.length := by omega
   repeat (first | refine W.q ?_ | refine W.g ?_ jA)
   refine W.ak ah 0 (by decide) ?_
   refine aj 1 (by simp only [exb, simprocAttr, dz, List.take_length]; rfl) ?_
   refine au rfl rfl rfl rfl rfl (by simp) (bZ (Gj rfl) iR) (yU (cs.map (·.name)) (by simp; omega) _) ?_
   cases h1 : jZ (cs.map (·.name)) with
   | false =>
     refine aA jA ?_
     repeat (first | refine W.q ?_ | refine W.g ?_ jA)
     refine W.ct rfl ?_
     repeat (first | refine W.q ?_ | refine W.g ?_ jA)
     refine W.rt ?_
     simp only [Tryz.f12, bE, aD, toT, fin, exb, simprocAttr]
     simp [cu, hl, h1]
   | true =>
     refine aj 5 jA ?_
     refine bg rfl rfl rfl rfl rfl (by simp) (aB aV (aB (wR (oD rfl rfl)) bf)) (by rfl) (by rfl) (qH cs 28 [[.sl (cs.map ay), .sl (bJ mn)]] (fun c => !dB cs c) (by omega) (fun x hx m => Jw cs (.sl (bJ mn)) x hS (by omega) hx m)) ?_
     refine aA jA ?_
     refine W.cond rfl ?_ ?_
     ·intro hb
      have hb : cs.any (fun c => !dB cs c) = true := hb
      repeat (first | refine W.q ?_ | refine W.g ?_ jA)
      refine W.rt ?_
      simp only [Tryz.f12, bE, aD, toT, fin, exb, simprocAttr]
      simp only [cu, if_true, if_neg hl, h1, hb]; rfl
     ·intro hb
      have hb : cs.any (fun c => !dB cs c) = false := hb
      repeat (first | refine W.q ?_ | refine W.g ?_ jA)
      refine W.rt ?_
      simp only [Tryz.f12, bE, aD, toT, fin, exb, simprocAttr]
      simp only [cu, if_true, if_neg hl, h1, hb]; rfl
def nameAt (cs : List Class) (x : Nat × Nat) : List ByteArray := match cs[x.2]? with | some k => [k.name] | none => []
def jl (cs : List Class) (l : List (Nat × Nat)) : List ByteArray := l.flatMap (nameAt cs)
theorem qU (cs : List Class) : ∀ l : List (Nat × Nat), (jl cs l).length ≤ l.length
 | [] => by simp [jl]
 | x :: l => by
   have ih := qU cs l
   unfold jl at *
   rw [List.flatMap_cons, List.length_append, List.length_cons]
   have : (nameAt cs x).length ≤ 1 := by unfold nameAt; split <;> simp
   omega
def lS (E : Int) (cs : List Class) (n : ByteArray) : List ByteArray := if E = 0 then jl cs (upX cs (cs.length + 1) 0 n) else []
def tX (cs : List Class) (mn : C) (l : List ByteArray) : Mem :=
 upd (upd (upd Mem.nil 2 (some (.box 25 [.c (.sl (cs.map ay)), .c mn]))) 4 (some (.box 55 [.own 50]))) 50 (some (.arr 9 1 (l.map cStr)))
def qX : Nat → A := upd (upd (fun _ => .top) 2 (.ptr 2 0)) 4 (.ptr 4 0)
theorem JD : ∀ t, ∀ j ∈ (qX t).ids, j ≤ 5 := by
 intro t j hj
 unfold qX upd at hj
 repeat' (split at hj)
 all_goals (simp [A.ids] at hj)
 all_goals omega
set_option maxHeartbeats 1000000 in
theorem J4 (p : Program) (E : Int) (name : ByteArray) (hlen : p.classes.length ≤ 1000000000) (hchk : ∀ m, COk Tryz.prog 12 [.agg (dz p)] m (.c (.int .i64 E))) (m : Mem) :
 COk Tryz.prog 103 [.agg (dz p), .c (.str name)] m (.c (.sl ((lS E p.classes name).map cStr))) := by
 obtain ⟨cs, mn'⟩ := p
 dsimp only at hlen hchk ⊢
 generalize hmn : C.sl (bJ mn') = mn
 have hpr : dz ⟨cs, mn'⟩ = [.sl (cs.map ay), mn] := by rw [← hmn]; rfl
 rw [hpr] at hchk ⊢
 refine (vN ah Tryz.func103 (by kernel_rfl) rfl rfl (by rfl) (by rfl) (by rfl) (fun R hkeep => ?_) m)
 refine W.go ?_
 refine W.ak ah 0 (by decide) ?_
 refine xs0 1 ?_
 refine au rfl rfl rfl rfl rfl (by simp) cw1 (hchk _) ?_
 refine xe0 ?_
 refine W.cond rfl ?_ ?_
 ·intro h
  have he : E ≠ 0 := by simpa using h
  refine W.go ?_
  refine W.ret ⟨.inr rfl, .inl ⟨rfl, ?_⟩⟩
  simp only [Tryz.f103, bE, aD, toT, fin, exb, simprocAttr]
  simp [lS, he]
 intro h
 have he : E = 0 := by simpa using h
 subst he
 refine W.go ?_
 refine W.oO true 4 0 50 9 1 rfl rfl rfl ?_
 refine W.go ?_
 refine W.ak ah 0 (by decide) ?_
 refine xs0 2 ?_
 refine jW rfl rfl rfl rfl rfl rfl (by simp) cw2 (Jd (cs.map ay) mn name _ 1000 1001 rfl rfl (by decide)) ?_
 refine xe0 ?_
 refine W.go ?_
 have hG : ∀ l, GoodM R.keep qX 1000 1001 1002 1003 (tX cs mn l) := fun l => by
  refine ⟨?_, rfl, rfl, rfl, rfl, ?_, aI hkeep⟩
  ·unfold tX
   show MWf _ _
   (repeat (first | exact bY _ | refine bU ?_ qw))
  ·show SWf _ _
   unfold tX qX
   (repeat (first | exact aT _ | refine aU ?_ oV))
 have hul := nP cs (cs.length + 1) 0 name
 refine W.yX cs name mn 1000 1001 1002 1003 qX (fun k => tX cs mn (jl cs ((upX cs (cs.length + 1) 0 name).take k))) (fun _ => True) (by omega) rfl rfl rfl (by decide) rfl rfl (by decide) trivial rfl ?sle ?sn ?m0 (fun k _ => hG _) ?round ?done
 case sle =>
  unfold qX
  (repeat (first | exact aQ _ | exact aK _ | refine aP ?_ ML))
 case sn =>
  unfold qX
  (repeat (first | exact DF | refine DN ?_ (by decide)))
 case m0 =>
  refine uD ?_
  unfold tX
  (repeat (first | exact aZ _ | exact aC _ | refine aY ?_ (by first | rfl | (simp only [av, aL, Nat.reduceEqDiff, reduceIte, List.take_zero, jl, List.flatMap_nil, List.map_nil]; done))))
 case round =>
  intro R' l hk' k j kc x1 x2 xL _ hitem hkc
  have hn50 : ¬ R'.keep 50 := fun h => by
   rw [hk', hkeep] at h
   rcases h with h | ⟨t, h⟩ | h
   ·exact h
   ·have := JD t 50 h; omega
   ·omega
  have hF : List.map cStr (jl cs ((upX cs (cs.length + 1) 0 name).take k)) ++ [cStr kc.name] = List.map cStr (jl cs ((upX cs (cs.length + 1) 0 name).take (k + 1))) := by
   rw [List.take_add_one, hitem]
   simp [jl, nameAt, hkc]
  repeat (first | refine WI.seq ?_ | refine WI.block ?_ | refine WI.skip ?_ | refine WI.exit ?_ | refine WI.region ah 0 (by decide) (by kernel_rfl) (aG Tm) ?_)
  refine ⟨rfl, fun xL' => ?_⟩
  repeat (first | refine WI.seq ?_ | refine WI.block ?_ | refine WI.skip ?_ | refine WI.exit ?_ | refine WI.region ah 0 (by decide) (by kernel_rfl) (aG Tm) ?_)
  refine WI.ak ah 0 (by decide) (by kernel_rfl) ?_
  refine aj 4 QK ?_
  refine fu ah 50 rfl rfl rfl rfl rfl rfl rfl rfl (by first | rfl | (simp only [exb, simprocAttr, bB, tX, qX]; rfl)) rfl rfl rfl rfl hn50 (by simp) (by have h1 := qU cs ((upX cs (cs.length + 1) 0 name).take k); have h3 := List.length_take_le k (upX cs (cs.length + 1) 0 name); have h4 := (List.getElem?_eq_some_iff.1 hitem).1; simp only [List.length_map, List.length_cons, List.length_nil, List.length_take] at *; omega) (by decide) ?_
  refine aA QK ?_
  repeat (first | refine WI.seq ?_ | refine WI.block ?_ | refine WI.skip ?_ | refine WI.exit ?_ | refine WI.region ah 0 (by decide) (by kernel_rfl) (aG QK) ?_)
  refine ⟨trivial, fun j => j, Le.toT ?_⟩
  simp only [bB, tX, ← hF]
  refine dh ?sle ?mle ?swf ?mwf (fun j hj => fG (hF ▸ hG _) hj) (by rfl)
  case swf => repeat (first | exact aT _ | refine aU ?_ (by simp [A.ids, av, bB, tX, cStr]))
  case mwf => repeat (first | exact bY _ | refine bU ?_ (by simp [A.ids, O.ids, av, bB, tX, cStr]))
  case mle => repeat (first | exact aZ _ | exact aC _ | refine aY ?_ (by first | rfl | (simp only [av, aL, O.kill, A.kill, Nat.reduceEqDiff, reduceIte, Option.map_some, Option.map_none, List.map_cons, List.map_nil, bB, tX, cStr]; done)))
  case sle => repeat (first | exact aQ _ | exact aK _ | refine aP ?_ (by first | rfl | (simp only [av, aM, A.kill, aN, aO, Nat.reduceEqDiff, reduceIte, bB, tX, cStr]; done)))
 case done =>
  intro _ b
  rw [List.take_length]
  repeat (first | refine W.q ?_ | refine W.g ?_ (by simp only [exb, simprocAttr, eT, fH, DID, tX, qX]; rfl))
  refine W.ret ⟨.inr rfl, .inr ⟨b, 1002, rfl, rfl, rfl, ?_⟩⟩
  simp only [Tryz.f103, bE, aD, toT, fin, eT, fH, DID, exb, simprocAttr, tX]
  simp [lS]
theorem NV (l : List ByteArray) (s : ByteArray) (hlen : l.length ≤ 1000000000000) (m : Mem) : COk Tryz.prog 117 [.c (.sl (l.map cStr)), .c (.str s)] m (.c (.int .i64 (dR (fun x => s.toList == x.toList) l))) := by
 refine (cB ah Tryz.func117 (by kernel_rfl) rfl rfl (by rfl) (by rfl) (by rfl) (fun R hkeep => ?_) m)
 refine W.go ?_
 refine W.loop (ι := Nat) (fun k => ⟨upd (upd (upd (upd (upd (fun _ => .top) 0 (.c (.sl (l.map cStr)))) 1 (.c (.str s))) 4 (.c (.int .i64 0))) 7 (.c (.int .i64 l.length))) 8 (.c (.int .i64 k)), Mem.nil⟩) (fun k => k ≤ l.length ∧ (l.take k).any (fun x => s.toList == x.toList) = false) (fun k => l.length - k) 0 ?start ⟨Nat.zero_le _, rfl⟩ ?round
 case start =>
  exact nA (aI hkeep)
 case round =>
  rintro k ⟨hkl, hno⟩
  refine W.go ?_
  refine W.cond rfl ?_ ?_
  ·intro hlt
   replace hlt := dtl hlt
   obtain ⟨x, hx⟩ : ∃ x, l[k]? = some x := ⟨_, List.getElem?_eq_getElem hlt⟩
   repeat (first | refine W.q ?_ | refine W.g ?_ Tn)
   refine W.cond rfl ?_ ?_
   ·intro hp
    refine W.go ?_
    refine W.rt ?_
    simp only [Tryz.f117, bE, aD, toT, fin, exb, simprocAttr]
    rw [yT hno hx hp]
   ·intro hp
    refine W.go ?_
    refine ⟨k + 1, ⟨hlt, ?_⟩, by omega, ?_⟩
    ·rw [List.take_add_one, hx, List.any_append, hno]; simpa using hp
    exact oF (aI hkeep)
  ·intro hge
   replace hge := dnl hge
   obtain rfl : k = l.length := by omega
   rw [List.take_length] at hno
   refine W.go ?_
   refine W.rt ?_
   simp only [Tryz.f117, bE, aD, toT, fin, exb, simprocAttr]
   rw [iF hno]
theorem Eh (l : List ByteArray) (s : ByteArray) (hlen : l.length ≤ 1000000000000) (m : Mem) : COk Tryz.prog 102 [.c (.sl (l.map cStr)), .c (.str s)] m (.c (.bool (l.any (fun x => s.toList == x.toList)))) := by
 refine (cB ah Tryz.func102 (by kernel_rfl) rfl rfl (by rfl) (by rfl) (by rfl) (fun R hkeep => ?_) m)
 refine W.go ?_
 refine W.ak ah 0 (by decide) ?_
 refine xs0 2 ?_
 refine au rfl rfl rfl rfl rfl (by simp) cw2 (NV l s hlen _) ?_
 refine xe0 ?_
 refine W.go ?_
 refine W.rt ?_
 simp only [Tryz.f102, bE, aD, toT, fin, exb, simprocAttr]
 rw [mX (fun x : ByteArray => s.toList == x.toList) l]
def nY (E : Int) (cs : List Class) (a b : ByteArray) : Bool := (lS E cs a).any (fun x => b.toList == x.toList)
theorem GQ (E : Int) (cs : List Class) (n : ByteArray) : (lS E cs n).length ≤ cs.length + 1 := by
 unfold lS
 split
 ·exact Nat.le_trans (qU _ _) (nP _ _ _ _)
 ·simp
theorem NC (p : Program) (E : Int) (a b : ByteArray) (hlen : p.classes.length ≤ 1000000000) (hchk : ∀ m, COk Tryz.prog 12 [.agg (dz p)] m (.c (.int .i64 E))) (m : Mem) :
 COk Tryz.prog 76 [.agg (dz p), .c (.str a), .c (.str b)] m (.c (.bool (nY E p.classes a b))) := by
 have hcl := GQ E p.classes a
 refine (cB ah Tryz.func76 (by kernel_rfl) rfl rfl (by rfl) (by rfl) (by rfl) (fun R hkeep => ?_) m)
 repeat (first | refine W.q ?_ | refine W.g ?_ jA)
 refine W.ak ah 0 (by decide) ?_
 refine aj 2 jA ?_
 refine au rfl rfl rfl rfl rfl (by simp) cw2 (J4 p E a hlen hchk _) ?_
 refine aj 1 jA ?_
 refine au rfl rfl rfl rfl rfl (by simp) cw2 (Eh (lS E p.classes a) b (by omega) _) ?_
 refine xe0 ?_
 refine W.rt ?_;simp only [Tryz.f76, bE, aD, toT, fin, exb, simprocAttr] <;> rfl
def vD : Tab := { tab with eff := fun f => f == 57 || f == 99 }
namespace E
theorem ah : vD.Ok Tryz.prog := ⟨V.ah.ty, V.ah.zero, V.ah.elem, V.ah.off, V.ah.bool, V.ah.fields, V.ah.bytes, V.ah.nilk, V.ah.int, V.ah.map, V.ah.str, V.ah.one, V.ah.seq⟩
theorem tabs : vD.ty = tab.ty ∧ vD.zero = tab.zero ∧ vD.elem = tab.elem ∧ vD.off = tab.off ∧ vD.bool = tab.bool ∧ vD.fields = tab.fields ∧ vD.bytes = tab.bytes ∧ vD.nilk = tab.nilk ∧ vD.int = tab.int ∧ vD.map = tab.map ∧ vD.str = tab.str ∧ vD.one = tab.one ∧ vD.seq = tab.seq := ⟨rfl, rfl, rfl, rfl, rfl, rfl, rfl, rfl, rfl, rfl, rfl, rfl, rfl⟩
def BU (l : List Slot) : List C := [.sl (l.map bC)]
theorem wK {α : Type} (ps : List (List α)) {k : Nat} {l : List α} (h : ps[k]? = some l) : (ps.take (k + 1)).flatten = (ps.take k).flatten ++ l := by
 rw [List.take_add_one, h]; simp
theorem Ja {α : Type} (ps : List (List α)) (k : Nat) : (ps.take k).flatten.length ≤ ps.flatten.length := by
 have e : ps.flatten = (ps.take k).flatten ++ (ps.drop k).flatten := by rw [← List.flatten_append, List.take_append_drop]
 rw [e, List.length_append]
 exact Nat.le_add_right _ _
set_option maxHeartbeats 2000000 in
theorem JQ (ps : List (List Slot)) (hps : ps.length ≤ 1000000000000) (hn : ps.flatten.length ≤ 1000000000000) (m : Mem) : COk Tryz.prog 74 [.c (.sl (ps.map BU))] m (.c (.sl (ps.flatten.map bC))) := by
 refine (cB ah Tryz.func74 (by kernel_rfl) rfl rfl (by rfl) (by rfl) (by rfl) (fun R hkeep => ?_) m)
 repeat (first | refine W.q ?_ | refine W.g ?_ fQ)
 refine W.loop (ι := Nat) (fun k => ⟨upd (upd (upd (upd (upd (fun _ => .top) 0 (.c (.sl (ps.map BU)))) 3 (.c (.int .i64 (ps.take k).flatten.length))) 9 (.c (.sl (ps.map BU)))) 10 (.c (.int .i64 ps.length))) 11 (.c (.int .i64 k)), Mem.nil⟩)
  (fun k => k ≤ ps.length) (fun k => ps.length - k) 0 ?start (Nat.zero_le _) ?round
 case start =>
  exact nA (aI hkeep)
 case round =>
  intro k hk
  repeat (first | refine W.q ?_ | refine W.g ?_ fQ)
  refine W.cond rfl ?_ ?_
  ·intro hlt
   replace hlt := dtl hlt
   obtain ⟨l, hl⟩ : ∃ l, ps[k]? = some l := ⟨_, List.getElem?_eq_getElem hlt⟩
   have hle := Ja ps (k + 1)
   rw [wK ps hl, List.length_append] at hle
   have hw : IntKind.i64.wrap (((ps.take k).flatten.length : Int) + (l.length : Int)) = ((ps.take (k + 1)).flatten.length : Int) := by
    rw [wK ps hl, List.length_append, ← Int.natCast_add, q9 (by omega)]
   have hneg : ¬ (((ps.take (k + 1)).flatten.length : Int) < 0) := by omega
   repeat (first | refine W.q ?_ | refine W.g ?_ (by simp only [exb, simprocAttr, tabs, V.tabs, cZ hl, BU, hw]; rfl))
   refine W.cond rfl (fun h => absurd (by simpa using h) hneg) (fun _ => ?_)
   repeat (first | refine W.q ?_ | refine W.g ?_ fQ)
   refine ⟨k + 1, hlt, by omega, ?_⟩
   exact oF (aI hkeep)
  ·intro hge
   replace hge := dnl hge
   obtain rfl : k = ps.length := by omega
   rw [List.take_length]
   repeat (first | refine W.q ?_ | refine W.g ?_ fQ)
   refine W.ak ah 0 (by decide) ?_
   refine aj 1 fQ ?_
   refine jW rfl rfl rfl rfl rfl rfl (by simp) cw2 (Qf _ hn _ 24 rfl) ?_
   refine aA fQ ?_
   repeat (first | refine W.q ?_ | refine W.g ?_ fQ)
   refine W.loop (ι := Nat) (fun k => ⟨upd (upd (upd (upd (fun _ => .top) 6 (.own 24)) 25 (.c (.sl (ps.map BU)))) 26 (.c (.int .i64 ps.length))) 27 (.c (.int .i64 k)), upd Mem.nil 24 (some (.arr 35 2 ((ps.take k).flatten.map bC)))⟩)
    (fun k => k ≤ ps.length) (fun k => ps.length - k) 0 ?start2 (Nat.zero_le _) ?round2
   case start2 =>
    exact nA (aI hkeep)
   case round2 =>
    intro k hk
    repeat (first | refine W.q ?_ | refine W.g ?_ fQ)
    refine W.cond rfl ?_ ?_
    ·intro hlt
     replace hlt := dtl hlt
     obtain ⟨l, hl⟩ : ∃ l, ps[k]? = some l := ⟨_, List.getElem?_eq_getElem hlt⟩
     have hle := Ja ps (k + 1)
     have hft := wK ps hl
     rw [hft, List.length_append] at hle
     repeat (first | refine W.q ?_ | refine W.g ?_ (by simp only [exb, simprocAttr, tabs, V.tabs, cZ hl, BU]; rfl))
     refine W.ak ah 0 (by decide) ?_
     refine aj 2 fQ ?_
     refine fu ah 24 rfl rfl rfl rfl rfl rfl rfl rfl (by first | rfl | (simp only [exb, simprocAttr, tabs, V.tabs]; rfl)) rfl rfl rfl rfl (ku hkeep) (by intro z hz; obtain ⟨s, -, rfl⟩ := List.mem_map.1 hz; rfl) Ql (by decide) ?_
     refine aA fQ ?_
     repeat (first | refine W.q ?_ | refine W.g ?_ fQ)
     refine ⟨k + 1, hlt, by omega, ?_⟩
     rw [hft, List.map_append]
     exact oF (aI hkeep)
    ·intro hge
     replace hge := dnl hge
     obtain rfl : k = ps.length := by omega
     rw [List.take_length]
     repeat (first | refine W.q ?_ | refine W.g ?_ fQ)
     refine W.rt ?_;simp only [Tryz.f74, bE, aD, toT, fin, exb, simprocAttr, tabs, V.tabs]
end E
mutual
def wM (N : Nat) : Expr → Prop
 | ⟨_, _, _, kids⟩ => kids.length ≤ N ∧ jT N kids
def jT (N : Nat) : List Expr → Prop
 | [] => True
 | x :: l => wM N x ∧ jT N l
end
mutual
def sO (N : Nat) : Stmt → Prop
 | ⟨_, _, _, _, es, th, el⟩ => es.length ≤ N ∧ jT N es ∧ th.length ≤ N ∧ gK N th ∧ el.length ≤ N ∧ gK N el
def gK (N : Nat) : List Stmt → Prop
 | [] => True
 | x :: l => sO N x ∧ gK N l
end
theorem gK.mem {N : Nat} : ∀ {l : List Stmt} {x : Stmt}, gK N l → x ∈ l → sO N x
 | y :: l, x, h, hx => by
   simp only [gK] at h
   rcases List.mem_cons.1 hx with rfl | hx
   ·exact h.1
   ·exact gK.mem h.2 hx
theorem jT.mem {N : Nat} : ∀ {l : List Expr} {x : Expr}, jT N l → x ∈ l → wM N x
 | y :: l, x, h, hx => by
   simp only [jT] at h
   rcases List.mem_cons.1 hx with rfl | hx
   ·exact h.1
   ·exact jT.mem h.2 hx
theorem set_self {α : Type} {l : List α} {k : Nat} {x : α} (h : l[k]? = some x) : l.set k x = l := by
 obtain ⟨h1, h2⟩ := List.getElem?_eq_some_iff.1 h
 rw [← h2]
 exact List.set_getElem_self h1
theorem Lr : ∃ i z, Tryz.prog.info? 29 = some i ∧ i.zero = some z ∧ i.size = 4 ∧ i.bytes = 56 ∧ z.cells.size = 4 := by
 obtain ⟨i, z, h1, h2, h3, -⟩ := V.ah.zero 29 _ rfl
 obtain ⟨-, ⟨i', h4, h5⟩, -⟩ := V.ah.ty 29 _ _ rfl
 obtain ⟨i2, h6, h7⟩ := V.ah.bytes 29 _ rfl
 rw [h1] at h4 h6
 cases h4; cases h6
 exact ⟨i, z, h1, h2, h5, h7, by rw [h3]; rfl⟩
theorem NA : ∃ i z, Tryz.prog.info? 118 = some i ∧ i.zero = some z ∧ i.size = 7 ∧ i.bytes = 120 ∧ z.cells.size = 7 := by
 obtain ⟨i, z, h1, h2, h3, -⟩ := V.ah.zero 118 _ rfl
 obtain ⟨-, ⟨i', h4, h5⟩, -⟩ := V.ah.ty 118 _ _ rfl
 obtain ⟨i2, h6, h7⟩ := V.ah.bytes 118 _ rfl
 rw [h1] at h4 h6
 cases h4; cases h6
 exact ⟨i, z, h1, h2, h5, h7, by rw [h3]; rfl⟩
def uy : Tab := { tab with eff := fun f => f == 116 || f == 100 }
namespace F
theorem ah : uy.Ok Tryz.prog := ⟨V.ah.ty, V.ah.zero, V.ah.elem, V.ah.off, V.ah.bool, V.ah.fields, V.ah.bytes, V.ah.nilk, V.ah.int, V.ah.map, V.ah.str, V.ah.one, V.ah.seq⟩
theorem tabs : uy.ty = tab.ty ∧ uy.zero = tab.zero ∧ uy.elem = tab.elem ∧ uy.off = tab.off ∧ uy.bool = tab.bool ∧ uy.fields = tab.fields ∧ uy.bytes = tab.bytes ∧ uy.nilk = tab.nilk ∧ uy.int = tab.int ∧ uy.map = tab.map ∧ uy.str = tab.str ∧ uy.one = tab.one ∧ uy.seq = tab.seq := ⟨rfl, rfl, rfl, rfl, rfl, rfl, rfl, rfl, rfl, rfl, rfl, rfl, rfl⟩
theorem QO (l : List Expr) (hl : l.length ≤ 1048576) (M : Mem) (id : Nat) (hid : M id = none) : gU Tryz.prog 116 [.c (.sl (l.map cExpr))] M [] (.own id) (upd M id (some (.mrow 29 4 (l.map cExpr)))) :=
 wB Tryz.DU Lr (by decide) (enters_of Tryz.func116 (by kernel_rfl) rfl) (l.map cExpr) (fun x hx => by obtain ⟨y, -, rfl⟩ := List.mem_map.1 hx; cases y; rfl) IB M id hid
set_option maxHeartbeats 2000000 in
theorem LA : ∀ (d : Nat) (l : List Expr), mY l ≤ d → l.length ≤ 1048576 → jT 1048576 l → ∀ m, COk Tryz.prog 101 [.c (.sl (l.map cExpr))] m (.c (.sl (l.map cExpr))) := by
 intro d
 induction d using Nat.strongRecOn with
 | ind d ih =>
 intro l hd hlen hS m
 refine (cB ah Tryz.func101 (by kernel_rfl) rfl rfl (by rfl) (by rfl) (by rfl) (fun R hkeep => ?_) m)
 repeat (first | refine W.q ?_ | refine W.g ?_ fQ)
 refine W.ak ah 0 (by decide) ?_
 refine aj 1 fQ ?_
 refine jW rfl rfl rfl rfl rfl rfl (by simp) cw1 (QO l hlen _ 6 rfl) ?_
 refine aA fQ ?_
 repeat (first | refine W.q ?_ | refine W.g ?_ fQ)
 refine W.loop (ι := Nat) (fun k => ⟨upd (upd (upd (upd (fun _ => .top) 0 (.own 6)) 7 (.own 6)) 8 (.c (.int .i64 l.length))) 9 (.c (.int .i64 k)), upd Mem.nil 6 (some (.mrow 29 4 (l.map cExpr)))⟩)
  (fun k => k ≤ l.length) (fun k => l.length - k) 0 ?start (Nat.zero_le _) ?round
 case start =>
  exact nA (aI hkeep)
 case round =>
  intro k hk
  repeat (first | refine W.q ?_ | refine W.g ?_ fQ)
  refine W.cond rfl ?_ ?_
  ·intro hlt
   replace hlt := dtl hlt
   obtain ⟨x, hx⟩ : ∃ x, l[k]? = some x := ⟨_, List.getElem?_eq_getElem hlt⟩
   have hxm := List.mem_of_getElem? hx
   obtain ⟨kd, nn, nm, kids⟩ := x
   have hsx := hS.mem hxm
   simp only [wM] at hsx
   have hdx : sN ⟨kd, nn, nm, kids⟩ ≤ mY l := uj hxm
   simp only [sN] at hdx
   repeat (first | refine W.q ?_ | refine W.g ?_ Rs)
   refine W.ak ah 0 (by decide) ?_
   refine aj 4 Rs ?_
   refine au rfl rfl rfl rfl rfl (by simp) cw1 (ih (mY kids) (by omega) kids (Nat.le_refl _) hsx.1 hsx.2 _) ?_
   refine aA Rs ?_
   repeat (first | refine W.q ?_ | refine W.g ?_ fQ)
   refine ⟨k + 1, hlt, by omega, ?_⟩
   have hset : (l.map cExpr).set k [.int .i64 kd, .int .i64 nn, .str nm, .sl (kids.map cExpr)] = l.map cExpr := set_self (by rw [cZ hx]; simp only [cExpr, eZ])
   refine nK ?sle ?mle (aI hkeep)
   case mle => repeat (first | exact aZ _ | exact aC _ | refine aY ?_ Tk)
   case sle => repeat (first | exact aQ _ | exact aK _ | refine aP ?_ Td)
  ·intro hge
   replace hge := dnl hge
   obtain rfl : k = l.length := by omega
   refine W.freeze 0 6 rfl rfl (ku hkeep) ?_
   repeat (first | refine W.q ?_ | refine W.g ?_ fQ)
   refine W.rt ?_;simp only [Tryz.f101, bE, aD, toT, fin, exb, simprocAttr, tabs, V.tabs]
theorem Rj (l : List Stmt) (hl : l.length ≤ 1048576) (M : Mem) (id : Nat) (hid : M id = none) : gU Tryz.prog 100 [.c (.sl (l.map dx))] M [] (.own id) (upd M id (some (.mrow 118 7 (l.map dx)))) :=
 wB Tryz.Dj NA (by decide) (enters_of Tryz.func100 (by kernel_rfl) rfl) (l.map dx) (fun x hx => by obtain ⟨y, -, rfl⟩ := List.mem_map.1 hx; cases y; rfl) IB M id hid
set_option maxHeartbeats 4000000 in
theorem LC : ∀ (d : Nat) (l : List Stmt), jI l ≤ d → l.length ≤ 1048576 → gK 1048576 l → ∀ m, COk Tryz.prog 75 [.c (.sl (l.map dx))] m (.c (.sl (l.map dx))) := by
 intro d
 induction d using Nat.strongRecOn with
 | ind d ih =>
 intro l hd hlen hS m
 refine (cB ah Tryz.func75 (by kernel_rfl) rfl rfl (by rfl) (by rfl) (by rfl) (fun R hkeep => ?_) m)
 repeat (first | refine W.q ?_ | refine W.g ?_ fQ)
 refine W.ak ah 0 (by decide) ?_
 refine aj 1 fQ ?_
 refine jW rfl rfl rfl rfl rfl rfl (by simp) cw1 (Rj l hlen _ 6 rfl) ?_
 refine aA fQ ?_
 repeat (first | refine W.q ?_ | refine W.g ?_ fQ)
 refine W.loop (ι := Nat) (fun k => ⟨upd (upd (upd (upd (fun _ => .top) 0 (.own 6)) 7 (.own 6)) 8 (.c (.int .i64 l.length))) 9 (.c (.int .i64 k)), upd Mem.nil 6 (some (.mrow 118 7 (l.map dx)))⟩)
  (fun k => k ≤ l.length) (fun k => l.length - k) 0 ?start (Nat.zero_le _) ?round
 case start =>
  exact nA (aI hkeep)
 case round =>
  intro k hk
  repeat (first | refine W.q ?_ | refine W.g ?_ fQ)
  refine W.cond rfl ?_ ?_
  ·intro hlt
   replace hlt := dtl hlt
   obtain ⟨x, hx⟩ : ∃ x, l[k]? = some x := ⟨_, List.getElem?_eq_getElem hlt⟩
   have hxm := List.mem_of_getElem? hx
   obtain ⟨kd, nn, ty, nm, es, th, el⟩ := x
   have hsx := hS.mem hxm
   simp only [sO] at hsx
   obtain ⟨s1, s2, s3, s4, s5, s6⟩ := hsx
   have hdx : sJ ⟨kd, nn, ty, nm, es, th, el⟩ ≤ jI l := pG hxm
   simp only [sJ] at hdx
   repeat (first | refine W.q ?_ | refine W.g ?_ PD)
   refine W.bM ah 0 aF (by kernel_rfl) (by decide) ?_
   refine aj 8 PD ?_
   refine au rfl rfl rfl rfl rfl (by simp) cw1 (LA (mY es) es (Nat.le_refl _) s1 s2 _) ?_
   refine aj 2 PD ?_
   refine au rfl rfl rfl rfl rfl (by simp) cw1 (ih (jI th) (by omega) th (Nat.le_refl _) s3 s4 _) ?_
   refine aj 2 PD ?_
   refine au rfl rfl rfl rfl rfl (by simp) cw1 (ih (jI el) (by omega) el (Nat.le_refl _) s5 s6 _) ?_
   have hset : (l.map dx).set k [.int .i64 kd, .int .i64 nn, .str ty, .str nm, .sl (es.map cExpr), .sl (th.map dx), .sl (el.map dx)] = l.map dx := set_self (by rw [cZ hx]; simp only [dx, eZ, dO])
   refine aA (by simp only [exb, simprocAttr, tabs, V.tabs, hlt, cZ hx, dx, eZ, dO, hset]; rfl) ?_
   repeat (first | refine W.q ?_ | refine W.g ?_ fQ)
   refine ⟨k + 1, hlt, by omega, ?_⟩
   refine nK ?sle ?mle (aI hkeep)
   case mle => repeat (first | exact aZ _ | exact aC _ | refine aY ?_ Tk)
   case sle => repeat (first | exact aQ _ | exact aK _ | refine aP ?_ Td)
  ·intro hge
   replace hge := dnl hge
   obtain rfl : k = l.length := by omega
   refine W.freeze 0 6 rfl rfl (ku hkeep) ?_
   repeat (first | refine W.q ?_ | refine W.g ?_ fQ)
   refine W.rt ?_;simp only [Tryz.f75, bE, aD, toT, fin, exb, simprocAttr, tabs, V.tabs]
end F
section
variable {P : Go.Program}
theorem W.Ib {R : Ref} {n : Nat} {ds : List Deferred} {st : St} {c : Code} {K : Exit → St → Prop} (j k : Nat) {tyb : TypeId} {cells : List A} (hj : st.m j = some (.box tyb cells)) (hk : cells[k]? = some .nil)
 (h : W P R n ds ⟨st.s, upd st.m j (some (.box tyb (cells.set k (.c (.sl [])))))⟩ c K) : W P R n ds st c K := by
 intro a w hr
 refine h a w ?_
 obtain ⟨⟨B, I, hm, hx0, hkp, hs⟩, h2, h3, hnn, h4, h5⟩ := hr
 obtain ⟨b, vs, e1, e2, e3, e4⟩ := hm.objs j _ hj
 have liv : ∀ i, (st.m i).isSome = true → (upd st.m j (some (.box tyb (cells.set k (.c (.sl []))))) i).isSome = true := fun i hi => by
  unfold upd; split
  ·rfl
  ·exact hi
 have hm2 := hm.turn (o' := .box tyb (cells.set k (.c (.sl [])))) hj ⟨0, e1⟩ (fun q hq => by obtain ⟨off, hq⟩ := hq; rw [e1] at hq; cases hq; rfl) e4 rfl rfl rfl rfl (fun _ _ => rfl) (fun i hi => by
  obtain ⟨a', ha', hi'⟩ := List.mem_flatMap.1 hi
  rcases List.mem_or_eq_of_mem_set ha' with ha' | rfl
  ·exact hm.live j _ hj i (List.mem_flatMap.2 ⟨a', ha', hi'⟩)
  ·simp [A.ids] at hi') (fun _ => by
  refine ⟨b, vs, e1, e2, ?_, e4⟩
  have hl := e3.length
  refine RVs.of Jj fun q a' v' ha' hv' => ?_
  rw [List.getElem?_set] at ha'
  split at ha'
  ·rename_i hq
   subst hq
   split at ha'
   ·cases ha'
    obtain ⟨v2, q1, q2, q3⟩ := e3.at k _ hk
    rw [hv'] at q1; cases q1
    have hv : v' = .slice none 0 0 := q2
    subst hv
    exact ⟨RC.sl (e := 0) (fun _ _ => undef) rfl (Nat.le_refl _) (Nat.zero_le _) (fun x hx => by simp at hx) (fun i x hx => by simp at hx) (fun i j x c hx _ => by simp at hx), q3⟩
   ·cases ha'
  ·obtain ⟨v2, q1, q2, q3⟩ := e3.at q _ ha'
   rw [hv'] at q1; cases q1
   exact ⟨q2, q3⟩)
 exact ⟨⟨B, I, hm2.1, hx0, hkp, fun t => hs t⟩, fun t i hi => liv i (h2 t i hi), h3, hnn, h4, fun i hi => liv i (h5 i hi)⟩
end
def pR (cs : List Class) (x : Nat × Nat) : List Slot := match cs[x.2]? with | some k => k.fields | none => []
def iB (cs : List Class) (l : List (Nat × Nat)) : List Slot := l.reverse.flatMap (pR cs)
theorem qy {cs : List Class} (h : gN cs) : ∀ l : List (Nat × Nat), (iB cs l).length ≤ l.length * 1048576
 | [] => by simp [iB]
 | x :: l => by
   have ih := qy h l
   unfold iB at *
   rw [List.reverse_cons, List.flatMap_append, List.length_append, List.length_cons]
   have : ([x].flatMap (pR cs)).length ≤ 1048576 := by
    simp only [List.flatMap_cons, List.flatMap_nil, List.append_nil]
    unfold pR
    split
    ·rename_i k hk; exact (h k (List.mem_of_getElem? hk)).1
    ·simp
   rw [Nat.add_mul]
   omega
def gT (E : Int) (cs : List Class) (n : ByteArray) : List Slot := if E = 0 then iB cs (upX cs (cs.length + 1) 0 n) else []
def vW (cs : List Class) (mn : C) (l : List Slot) : Mem :=
 upd (upd Mem.nil 2 (some (.box 25 [.c (.sl (cs.map ay)), .c mn]))) 4 (some (.box 26 [.c (.sl (l.map bC))]))
def yA : Nat → A := upd (upd (fun _ => .top) 2 (.ptr 2 0)) 4 (.ptr 4 0)
namespace E
set_option maxRecDepth 100000 in
set_option maxHeartbeats 1000000 in
theorem Ho (p : Program) (E : Int) (name : ByteArray) (hS : gN p.classes) (hlen : p.classes.length ≤ 1000000000) (h16 : E = 0 → p.classes.length ≤ 16) (hchk : ∀ m, COk Tryz.prog 12 [.agg (dz p)] m (.c (.int .i64 E))) (m : Mem) :
 COk Tryz.prog 37 [.agg (dz p), .c (.str name)] m (.c (.sl ((gT E p.classes name).map bC))) := by
 obtain ⟨cs, mn'⟩ := p
 dsimp only at hS hlen h16 hchk ⊢
 generalize hmn : C.sl (bJ mn') = mn
 have hpr : dz ⟨cs, mn'⟩ = [.sl (cs.map ay), mn] := by rw [← hmn]; rfl
 rw [hpr] at hchk ⊢
 refine (vN ah Tryz.func37 (by kernel_rfl) rfl rfl (by rfl) (by rfl) (by rfl) (fun R hkeep => ?_) m)
 repeat (first | refine W.q ?_ | refine W.g ?_ fQ)
 refine W.ak ah 0 (by decide) ?_
 refine aj 1 fQ ?_
 refine au rfl rfl rfl rfl rfl (by simp) cw1 (hchk _) ?_
 refine aA fQ ?_
 refine W.cond rfl ?_ ?_
 ·intro h
  have he : E ≠ 0 := by simpa using h
  repeat (first | refine W.q ?_ | refine W.g ?_ fQ)
  refine W.ret ⟨.inr rfl, .inl ⟨rfl, ?_⟩⟩
  simp only [Tryz.f37, bE, aD, toT, fin, exb, simprocAttr, tabs, V.tabs]
  simp [gT, he]
 intro h
 have he : E = 0 := by simpa using h
 subst he
 have h16 := h16 rfl
 repeat (first | refine W.q ?_ | refine W.g ?_ fQ)
 refine W.Ib 4 0 rfl rfl ?_
 repeat (first | refine W.q ?_ | refine W.g ?_ fQ)
 refine W.ak ah 0 (by decide) ?_
 refine aj 2 fQ ?_
 refine jW rfl rfl rfl rfl rfl rfl (by simp) cw2 (Jd (cs.map ay) mn name _ 1000 1001 rfl rfl (by decide)) ?_
 refine aA fQ ?_
 repeat (first | refine W.q ?_ | refine W.g ?_ fQ)
 have hG : ∀ l, GoodM R.keep yA 1000 1001 1002 1003 (vW cs mn l) := fun l => by
  refine ⟨?_, rfl, rfl, rfl, rfl, ?_, aI hkeep⟩
  ·unfold vW
   show MWf _ _
   (repeat (first | exact bY _ | refine bU ?_ qw))
  ·show SWf _ _
   unfold vW yA
   (repeat (first | exact aT _ | refine aU ?_ oV))
 have hul := nP cs (cs.length + 1) 0 name
 refine W.yX cs name mn 1000 1001 1002 1003 yA (fun k => vW cs mn (iB cs ((upX cs (cs.length + 1) 0 name).take k))) (fun _ => True) (by omega) rfl rfl rfl (by decide) rfl rfl (by decide) trivial rfl ?sle ?sn ?m0 (fun k _ => hG _) ?round ?done
 case sle =>
  unfold yA
  (repeat (first | exact aQ _ | exact aK _ | refine aP ?_ ML))
 case sn =>
  unfold yA
  (repeat (first | exact DF | refine DN ?_ (by decide)))
 case m0 =>
  refine uD ?_
  unfold vW
  (repeat (first | exact aZ _ | exact aC _ | refine aY ?_ (by first | rfl | (simp only [av, aL, Nat.reduceEqDiff, reduceIte, List.take_zero, iB, List.reverse_nil, List.flatMap_nil, List.map_nil, List.set_cons_zero]; done))))
 case round =>
  intro R' l hk' k j kc x1 x2 xL _ hitem hkc
  have hacc : (iB cs ((upX cs (cs.length + 1) 0 name).take k)).length ≤ 17 * 1048576 := by
   have h1 := qy hS ((upX cs (cs.length + 1) 0 name).take k)
   have h2 := List.length_take_le' k (upX cs (cs.length + 1) 0 name)
   have h3 : ((upX cs (cs.length + 1) 0 name).take k).length ≤ 17 := Nat.le_trans h2 (Nat.le_trans hul (Nat.succ_le_succ h16))
   exact Nat.le_trans h1 (Nat.mul_le_mul_right _ h3)
  have hfl := (hS kc (List.mem_of_getElem? hkc)).1
  have hF : [kc.fields, iB cs ((upX cs (cs.length + 1) 0 name).take k)].flatten = iB cs ((upX cs (cs.length + 1) 0 name).take (k + 1)) := by
   rw [List.take_add_one, hitem]
   simp [iB, pR, hkc]
  generalize iB cs ((upX cs (cs.length + 1) 0 name).take k) = acc at hacc hF ⊢
  repeat (first | refine WI.seq ?_ | refine WI.block ?_ | refine WI.skip ?_ | refine WI.exit ?_ | refine WI.region ah 0 (by decide) (by kernel_rfl) (aG RD) ?_)
  refine ⟨rfl, fun xL' => ?_⟩
  repeat (first | refine WI.seq ?_ | refine WI.block ?_ | refine WI.skip ?_ | refine WI.exit ?_ | refine WI.region ah 0 (by decide) (by kernel_rfl) (aG RD) ?_)
  refine WI.ak ah 0 (by decide) (by kernel_rfl) ?_
  refine aj 4 RD ?_
  refine au rfl rfl rfl rfl rfl (by simp) cw1 (JQ [kc.fields, acc] (by simp) (by simp only [List.flatten_cons, List.flatten_nil, List.append_nil, List.length_append]; omega) _) ?_
  rw [hF]
  refine aA RZ ?_
  repeat (first | refine WI.seq ?_ | refine WI.block ?_ | refine WI.skip ?_ | refine WI.exit ?_ | refine WI.region ah 0 (by decide) (by kernel_rfl) (aG RZ) ?_)
  refine ⟨trivial, fun j => j, Le.toT ?_⟩
  simp only [bB, vW]
  refine dh ?sle ?mle ?swf ?mwf (fun j hj => fG (hG _) hj) (by rfl)
  case swf => repeat (first | exact aT _ | refine aU ?_ (by simp [A.ids, av, bB, vW]))
  case mwf => repeat (first | exact bY _ | refine bU ?_ (by simp [A.ids, O.ids, av, bB, vW]))
  case mle => repeat (first | exact aZ _ | exact aC _ | refine aY ?_ (by first | rfl | (simp only [av, aL, O.kill, A.kill, Nat.reduceEqDiff, reduceIte, Option.map_some, Option.map_none, List.map_cons, List.map_nil, bB, vW]; done)))
  case sle => repeat (first | exact aQ _ | exact aK _ | refine aP ?_ (by first | rfl | (simp only [av, aM, A.kill, aN, aO, Nat.reduceEqDiff, reduceIte, bB, vW]; done)))
 case done =>
  intro _ b
  rw [List.take_length]
  repeat (first | refine W.q ?_ | refine W.g ?_ (by simp only [exb, simprocAttr, tabs, V.tabs, eT, fH, DID, vW, yA]; rfl))
  refine W.ret ⟨.inr rfl, .inr ⟨b, 1002, rfl, rfl, rfl, ?_⟩⟩
  simp only [Tryz.f37, bE, aD, toT, fin, eT, fH, DID, exb, simprocAttr, tabs, V.tabs, vW]
  simp [gT]
end E
def Runs (P : Go.Program) (T : Tab) (kp : Nat → Prop) (base : Nat) (ops : Array Oper) (K : St → Prop) : Nat → Array Bool → St → Prop
 | 0, listed, st => Region.ready .any ops listed = [] ∧ K st
 | f + 1, listed, st => (Region.ready .any ops listed = [] → K st) ∧ ∀ i ∈ Region.ready .any ops listed, ∀ o, ops[i]? = some o → ∃ st1, HS P T kp base ops o st st1 ∧ Runs P T kp base ops K f (listed.setIfInBounds i true) st1
section
variable {P : Go.Program} {T : Tab} (hT : T.Ok P) {R : Ref} {w : World} {n base : Nat} {ds : List Deferred} {ops : Array Oper}
include hT in
theorem zf (hd : ∀ o ∈ ops, ∀ d, o.dst = some d → d < n) {K : St → Prop} {Q : Exit → Act → World → Prop} (hQ : ∀ st a w, K st → SR R n ds st a w → Q .normal a w) :
 ∀ (fuel : Nat) (listed : Array Bool) (st : St) (a : Act) (w : World), Runs P T R.keep base ops K fuel listed st → SR R n ds st a w → wpAny P .any ops Q fuel listed a w := by
 intro fuel
 induction fuel with
 | zero =>
   intro listed st a w h hr
   exact ⟨h.1, hQ _ _ _ h.2 hr⟩
 | succ fuel ih =>
   intro listed st a w h hr
   obtain ⟨h0, h1⟩ := h
   constructor
   ·intro hnil
    exact hQ _ _ _ (h0 hnil) hr
   ·intro i hi
    obtain ⟨-, oi, h2, -⟩ := mem_ready.1 hi
    obtain ⟨st1, h4, h5⟩ := h1 i hi oi h2
    unfold wpOp
    rw [h2]
    have hgo := h4.snd hT hr (hd oi (Array.mem_of_getElem? h2)) (K := wpAny P .any ops Q fuel (listed.setIfInBounds i true)) (Q := Q) (fun a' w' hr' => ih _ _ _ _ h5 hr')
    dsimp only
    split
    ·rename_i hw; rw [if_pos hw] at hgo; exact .inl hgo
    ·rename_i hw; rw [if_neg hw] at hgo; exact hgo
end
section
variable {P : Go.Program} {T : Tab} {kp : Nat → Prop} {base f : Nat} {ops : Array Oper} {K : St → Prop} {listed : Array Bool} {st st1 st2 : St}
theorem Ea (hr : Region.ready .any ops listed = []) (hk : K st) : Runs P T kp base ops K f listed st := by
 cases f with
 | zero => exact ⟨hr, hk⟩
 | succ f => exact ⟨fun _ => hk, fun i hi => by rw [hr] at hi; cases hi⟩
theorem yY {o : Oper} (h : exec T base ops [o] st = some st1) : HS P T kp base ops o st st1 := by
 have := aG (P := P) (kp := kp) h
 cases this with
 | cons h t => cases t; exact h
theorem ou {i : Nat} {o : Oper} (hr : Region.ready .any ops listed = [i]) (ho : ops[i]? = some o) (h : ∃ st1, exec T base ops [o] st = some st1 ∧ Runs P T kp base ops K f (listed.setIfInBounds i true) st1) : Runs P T kp base ops K (f + 1) listed st :=
 ⟨(fun e => absurd (hr.symm.trans e) (by simp)), fun k hk' o' ho' => by
   rw [hr] at hk'
   obtain rfl : k = i := by simpa using hk'
   rw [ho] at ho'
   cases ho'
   exact let ⟨st1, h1, h2⟩ := h; ⟨st1, yY h1, h2⟩⟩
theorem vU {i j : Nat} {o p : Oper} (hr : Region.ready .any ops listed = [i, j]) (ho : ops[i]? = some o) (hp : ops[j]? = some p) (h : ∃ st1, exec T base ops [o] st = some st1 ∧ Runs P T kp base ops K f (listed.setIfInBounds i true) st1)
 (h' : ∃ st1, exec T base ops [p] st = some st1 ∧ Runs P T kp base ops K f (listed.setIfInBounds j true) st1) : Runs P T kp base ops K (f + 1) listed st :=
 ⟨(fun e => absurd (hr.symm.trans e) (by simp)), fun k hm o' ho' => by
   rw [hr] at hm
   rcases List.mem_cons.1 hm with rfl | hm
   ·rw [ho] at ho'
    cases ho'
    exact let ⟨st1, h1, h2⟩ := h; ⟨st1, yY h1, h2⟩
   ·obtain rfl : k = j := by simpa using hm
    rw [hp] at ho'
    cases ho'
    exact let ⟨st1, h1, h2⟩ := h'; ⟨st1, yY h1, h2⟩⟩
end
section
variable {l n' : Nat} {P : Go.Program} {T : Tab} {R : Ref} {n : Nat} {ds : List Deferred} {st : St} {K : Exit → St → Prop}
theorem WI.Ir (hT : T.Ok P) (base : Nat) {id : Nat} {ops : Array Oper} (hm : P.follows .mixedOrders = true) (hd : jM n ops = true) (hnd : lq ops = true) (h : Runs P T R.keep base ops (K .normal) ops.size (Array.replicate ops.size false) st) : WI l n' P R n ds st (.region id ops true) K := fun a w hr => by
 refine wpIn_mono (Q := fun e a w => e = .normal ∧ ∃ st', K .normal st' ∧ SR R n ds st' a w) (uG (fun ⟨_, _, h, _⟩ => by cases h) hm hnd (zf hT (gB hd) (fun st' a w hk hr' => ⟨rfl, st', hk, hr'⟩) _ _ st a _ h ?_)) fun e a w h => h.1 ▸ h.2
 obtain ⟨⟨B, I, hmr, hx0, hkp, hs⟩, h2, h3, hnn, h4, h5⟩ := hr
 have hE : Ext w w.drew I I := ⟨fun _ _ k => k, fun _ _ _ => rfl⟩
 exact ⟨⟨B, I, hmr.call (Below.refl _ _).drew, hx0.trans hE, hkp, fun t => (hs t).mono hE fun _ _ => rfl⟩, h2, h3, hnn, h4, h5⟩
theorem W.Ir (hT : T.Ok P) (base : Nat) {id : Nat} {ops : Array Oper} (hm : P.follows .mixedOrders = true) (hd : jM n ops = true) (h : Runs P T R.keep base ops (K .normal) ops.size (Array.replicate ops.size false) st) : W P R n ds st (.region id ops true) K := fun a w hr => by
 refine wp_region_any hm (zf hT (gB hd) (fun st' a w hk hr' => ⟨st', hk, hr'⟩) _ _ st a _ h ?_)
 obtain ⟨⟨B, I, hmr, hx0, hkp, hs⟩, h2, h3, hnn, h4, h5⟩ := hr
 have hE : Ext w w.drew I I := ⟨fun _ _ k => k, fun _ _ _ => rfl⟩
 exact ⟨⟨B, I, hmr.call (Below.refl _ _).drew, hx0.trans hE, hkp, fun t => (hs t).mono hE fun _ _ => rfl⟩, h2, h3, hnn, h4, h5⟩
end
theorem Ny (l : List Slot) (hl : l.length ≤ 1048576) (m : Mem) : COk Tryz.prog 49 [.c (.sl (l.map bC))] m (.c (.sl (l.map bC))) :=
 NW Tryz.xP zQ (by decide) (enters_of Tryz.func49 (by kernel_rfl) rfl) (l.map bC) (fun x hx => by obtain ⟨y, -, rfl⟩ := List.mem_map.1 hx; rfl) IB m
def nZ (cs : List Class) (n : ByteArray) (x : Nat × Nat) : Option (Method × ByteArray) := match cs[x.2]? with | some k => (k.methods.find? (eO n)).map (·, k.name) | none => none
def tV (cs : List Class) (n : ByteArray) (l : List (Nat × Nat)) : Option (Method × ByteArray) := l.findSome? (nZ cs n)
def fM (E : Int) (cs : List Class) (cn n : ByteArray) : Option (Method × ByteArray) := if E = 0 then tV cs n (upX cs (cs.length + 1) 0 cn) else none
def mZ (cs : List Class) : Prop := ∀ c ∈ cs, ∀ m ∈ c.methods, m.body.length ≤ 1048576 ∧ gK 1048576 m.body
theorem Po {α : Type} {f : α → Bool} {l : List α} {k : Nat} {x : α} (h0 : (l.take k).find? f = none) (hx : l[k]? = some x) (hr : f x = true) : l.find? f = some x := by
 obtain ⟨h1, h2⟩ := List.getElem?_eq_some_iff.1 hx
 have e : l = l.take k ++ x :: l.drop (k + 1) := by rw [← h2, ← List.drop_eq_getElem_cons h1, List.take_append_drop]
 rw [e, List.find?_append, h0]
 simp [hr]
theorem EF {α β : Type} {f : α → Option β} {l : List α} {k : Nat} {x : α} {r : β} (h0 : (l.take k).findSome? f = none) (hx : l[k]? = some x) (hr : f x = some r) : l.findSome? f = some r := by
 obtain ⟨h1, h2⟩ := List.getElem?_eq_some_iff.1 hx
 have e : l = l.take k ++ x :: l.drop (k + 1) := by rw [← h2, ← List.drop_eq_getElem_cons h1, List.take_append_drop]
 rw [e, List.findSome?_append, h0]
 simp [hr]
def jv (cs : List Class) (mn : C) (n : ByteArray) (c6 : List C) (nm : ByteArray) (b : Bool) : Mem :=
 upd (upd (upd (upd (upd Mem.nil 3 (some (.box 25 [.c (.sl (cs.map ay)), .c mn]))) 5 (some (.box 9 [.c (.str n)]))) 6 (some (.box 44 (c6.map A.c)))) 7 (some (.box 9 [.c (.str nm)]))) 8 (some (.box 4 [.c (.bool b)]))
def ql : Nat → A := upd (upd (upd (upd (upd (fun _ => .top) 3 (.ptr 3 0)) 5 (.ptr 5 0)) 6 (.ptr 6 0)) 7 (.ptr 7 0)) 8 (.ptr 8 0)
set_option maxRecDepth 100000 in
set_option maxHeartbeats 4000000 in
theorem Gi (p : Program) (E : Int) (cn n : ByteArray) (hS : gN p.classes) (hB : mZ p.classes) (hlen : p.classes.length ≤ 1000000000) (hchk : ∀ m, COk Tryz.prog 12 [.agg (dz p)] m (.c (.int .i64 E))) (m : Mem) :
 COk Tryz.prog 38 [.agg (dz p), .c (.str cn), .c (.str n)] m (.tup (kY (fM E p.classes cn n))) := by
 obtain ⟨cs, mn'⟩ := p
 dsimp only at hS hB hlen hchk ⊢
 generalize hmn : C.sl (bJ mn') = mn
 have hpr : dz ⟨cs, mn'⟩ = [.sl (cs.map ay), mn] := by rw [← hmn]; rfl
 rw [hpr] at hchk ⊢
 refine (vN ah Tryz.func38 (by kernel_rfl) rfl rfl (by rfl) (by rfl) (by rfl) (fun R hkeep => ?_) m)
 refine W.go ?_
 refine W.ak ah 0 (by decide) ?_
 refine xs0 1 ?_
 refine au rfl rfl rfl rfl rfl (by simp) cw1 (hchk _) ?_
 refine xe0 ?_
 refine W.cond rfl ?_ ?_
 ·intro h
  have he : E ≠ 0 := by simpa using h
  refine W.go ?_
  refine W.ret ⟨.inr rfl, .inl ⟨rfl, ?_⟩⟩
  simp only [Tryz.f38, bE, aD, toT, fin, exb, simprocAttr]
  simp [fM, he, kY, aS, zeroMethod, bJ]
 intro h
 have he : E = 0 := by simpa using h
 subst he
 refine W.go ?_
 refine W.Ib 6 2 rfl rfl ?_
 refine W.Ib 6 3 rfl rfl ?_
 refine W.ak ah 0 (by decide) ?_
 refine xs0 2 ?_
 refine jW rfl rfl rfl rfl rfl rfl (by simp) cw2 (Jd (cs.map ay) mn cn _ 1000 1001 rfl rfl (by decide)) ?_
 refine xe0 ?_
 refine W.go ?_
 have hG : ∀ c6 nm b, GoodM R.keep ql 1000 1001 1002 1003 (jv cs mn n c6 nm b) := fun c6 nm b => by
  refine ⟨?_, rfl, rfl, rfl, rfl, ?_, aI hkeep⟩
  ·unfold jv
   show MWf _ _
   (repeat (first | exact bY _ | refine bU ?_ qw))
  ·show SWf _ _
   unfold jv ql
   (repeat (first | exact aT _ | refine aU ?_ oV))
 refine W.yX cs cn mn 1000 1001 1002 1003 ql (fun k => jv cs mn n (aS zeroMethod) ⟨#[]⟩ false) (fun k => tV cs n ((upX cs (cs.length + 1) 0 cn).take k) = none) (by omega) rfl rfl rfl (by decide) rfl rfl (by decide) rfl rfl ?sle ?sn ?m0 (fun k _ => hG _ _ _) ?round ?done
 case sle =>
  unfold ql
  (repeat (first | exact aQ _ | exact aK _ | refine aP ?_ ML))
 case sn =>
  unfold ql
  (repeat (first | exact DF | refine DN ?_ (by decide)))
 case m0 =>
  refine uD ?_
  unfold jv
  (repeat (first | exact aZ _ | exact aC _ | refine aY ?_ (by first | rfl | (simp only [av, aL, Nat.reduceEqDiff, reduceIte, aS, zeroMethod, bJ, List.map_nil, List.map_cons, List.set_cons_zero, List.set_cons_succ]; done))))
 case round =>
  intro R' l hk' k j kc x1 x2 xL hInv hitem hkc
  repeat (first | refine WI.seq ?_ | refine WI.block ?_ | refine WI.skip ?_ | refine WI.exit ?_ | refine WI.region ah 0 (by decide) (by kernel_rfl) (aG Ni) ?_)
  refine ⟨rfl, fun xL' => ?_⟩
  repeat (first | refine WI.seq ?_ | refine WI.block ?_ | refine WI.skip ?_ | refine WI.exit ?_ | refine WI.region ah 0 (by decide) (by kernel_rfl) (aG Ni) ?_)
  have hkeepL : ∀ j, R'.keep j → (upd (bB (jv cs mn n (aS zeroMethod) ⟨#[]⟩ false) 1000 1001 1002 1003 x1 x2 xL') 10 (some (.box 42 ((ay kc).map A.c))) j).isSome = true := fun j hj => by
   rw [hk'] at hj
   unfold upd
   split
   ·rfl
   ·exact fG (hG _ _ _) hj
  refine WI.loop (ι := Nat) (fun q => ⟨upd (upd (upd (upd (upd (upd (upd (upd (upd (fun _ => .top) 3 (.ptr 3 0)) 5 (.ptr 5 0)) 6 (.ptr 6 0)) 7 (.ptr 7 0)) 8 (.ptr 8 0)) 10 (.ptr 10 0)) 23 (.c (.sl (kc.methods.map aS)))) 24 (.c (.int .i64 kc.methods.length))) 25 (.c (.int .i64 q)),
   upd (bB (jv cs mn n (aS zeroMethod) ⟨#[]⟩ false) 1000 1001 1002 1003 x1 x2 xL') 10 (some (.box 42 ((ay kc).map A.c)))⟩) (fun q => q ≤ kc.methods.length ∧ (kc.methods.take q).find? (eO n) = none) (fun q => kc.methods.length - q) 0 ?start ⟨Nat.zero_le _, rfl⟩ ?round
  case start =>
   simp only [bB, jv]
   refine dh ?sle ?mle ?swf ?mwf hkeepL (by rfl)
   case swf => repeat (first | exact aT _ | refine aU ?_ (by simp [A.ids, av, ay, bB, jv]))
   case mwf => repeat (first | exact bY _ | refine bU ?_ (by simp [A.ids, O.ids, av, ay, bB, jv]))
   case mle => repeat (first | exact aZ _ | exact aC _ | refine aY ?_ (by first | rfl | (simp only [av, aL, O.kill, A.kill, Nat.reduceEqDiff, reduceIte, Option.map_some, Option.map_none, List.map_cons, List.map_nil, ay, bB, jv]; done)))
   case sle => repeat (first | exact aQ _ | exact aK _ | refine aP ?_ (by first | rfl | (simp only [av, aM, A.kill, aN, aO, Nat.reduceEqDiff, reduceIte, ay, bB, jv]; done)))
  case round =>
   rintro q ⟨hq, hno⟩
   repeat (first | refine WI.seq ?_ | refine WI.block ?_ | refine WI.skip ?_ | refine WI.exit ?_ | refine WI.region ah 0 (by decide) (by kernel_rfl) (aG Ni) ?_)
   refine WI.cond rfl ?_ ?_
   ·intro hlt
    replace hlt := dtl hlt
    obtain ⟨y, hy⟩ : ∃ y, kc.methods[q]? = some y := ⟨_, List.getElem?_eq_getElem hlt⟩
    repeat (first | refine WI.seq ?_ | refine WI.block ?_ | refine WI.skip ?_ | refine WI.exit ?_ | refine WI.region ah 0 (by decide) (by kernel_rfl) (aG (by simp only [exb, simprocAttr, bB, jv, ql, ay, cZ hy, aS]; rfl)) ?_)
    refine WI.cond rfl ?_ ?_
    ·intro heq
     have hyb := hB kc (List.mem_of_getElem? hkc) y (List.mem_of_getElem? hy)
     have hyp := (hS kc (List.mem_of_getElem? hkc)).2.2 y (List.mem_of_getElem? hy)
     have hfm : kc.methods.find? (eO n) = some y := Po hno hy heq
     have hres : fM 0 cs cn n = some (y, kc.name) := by
      unfold fM tV
      rw [if_pos rfl]
      exact EF hInv hitem (by simp [nZ, hkc, hfm])
     repeat (first | refine WI.seq ?_ | refine WI.block ?_ | refine WI.skip ?_ | refine WI.exit ?_ | refine WI.region ah 0 (by decide) (by kernel_rfl) (aG (by simp only [exb, simprocAttr, bB, jv, ql, ay, aS]; rfl)) ?_)
     refine WI.ak ah 0 (by decide) (by kernel_rfl) ?_
     refine aj 2 Sl ?_
     refine au rfl rfl rfl rfl rfl (by simp) cw1 (Ny y.params hyp _) ?_
     refine aA Sl ?_
     repeat (first | refine WI.seq ?_ | refine WI.block ?_ | refine WI.skip ?_ | refine WI.exit ?_ | refine WI.region ah 0 (by decide) (by kernel_rfl) (aG LM) ?_)
     refine WI.ak ah 0 (by decide) (by kernel_rfl) ?_
     refine aj 2 LM ?_
     refine au rfl rfl rfl rfl rfl (by simp) cw1 (F.LC (jI y.body) y.body (Nat.le_refl _) hyb.1 hyb.2 _) ?_
     refine aA LM ?_
     refine WI.seq ?_
     refine WI.Ir ah 0 aF (by decide) (by kernel_rfl) ?_
     repeat' (first | refine Exists.intro _ (And.intro LM ?_) | refine vU (i := 0) (j := 1) dL rfl rfl ?_ ?_ | refine vU (i := 1) (j := 3) dL rfl rfl ?_ ?_ | refine vU (i := 0) (j := 2) dL rfl rfl ?_ ?_ | refine vU (i := 2) (j := 3) dL rfl rfl ?_ ?_ | refine ou (i := 4) dL rfl ?_ | refine ou (i := 5) dL rfl ?_ | refine ou (i := 0) dL rfl ?_ | refine ou (i := 1) dL rfl ?_ | refine ou (i := 2) dL rfl ?_ | refine ou (i := 3) dL rfl ?_ | refine Ea dL ?_)
     all_goals
      repeat (first | refine WI.seq ?_ | refine WI.block ?_ | refine WI.skip ?_ | refine WI.exit ?_ | refine WI.region ah 0 (by decide) (by kernel_rfl) (aG LM) ?_)
      refine WI.ret ⟨fun j => j, jv cs mn n (aS y) kc.name true, Le.toT ?_, hG _ _ _, fun b => ⟨.inr rfl, .inr ⟨b, 1002, rfl, rfl, rfl, ?_⟩⟩⟩
      ·simp only [bB, jv]
       refine dh ?sle ?mle ?swf ?mwf (fun j hj => fG (hG _ _ _) hj) (by rfl)
       case swf => repeat (first | exact aT _ | refine aU ?_ (by simp [A.ids, av, ay, bB, jv, aS, dO]))
       case mwf => repeat (first | exact bY _ | refine bU ?_ (by simp [A.ids, O.ids, av, ay, bB, jv, aS, dO]))
       case mle => repeat (first | exact aZ _ | exact aC _ | refine aY ?_ (by first | rfl | (simp only [av, aL, O.kill, A.kill, Nat.reduceEqDiff, reduceIte, Option.map_some, Option.map_none, List.map_cons, List.map_nil, ay, bB, jv, aS, dO]; done)))
       case sle => repeat (first | exact aQ _ | exact aK _ | refine aP ?_ (by first | rfl | (simp only [av, aM, A.kill, aN, aO, Nat.reduceEqDiff, reduceIte, ay, bB, jv, aS, dO]; done)))
      ·simp only [Tryz.f38, bE, aD, toT, fin, eT, fH, DID, exb, simprocAttr, jv, ql, hres, kY, aS]
    ·intro hneq
     repeat (first | refine WI.seq ?_ | refine WI.block ?_ | refine WI.skip ?_ | refine WI.exit ?_ | refine WI.region ah 0 (by decide) (by kernel_rfl) (aG Ni) ?_)
     refine ⟨q + 1, ⟨hlt, ?_⟩, by omega, ?_⟩
     ·rw [List.take_add_one, hy, List.find?_append, hno]
      simpa [eO] using hneq
     simp only [bB, jv]
     refine dh ?sle ?mle ?swf ?mwf hkeepL (by rfl)
     case swf => repeat (first | exact aT _ | refine aU ?_ (by simp [A.ids, av, ay, bB, jv, aR (show q + 1 < 9223372036854775808 by have := (hS kc (List.mem_of_getElem? hkc)).2.1; omega)]))
     case mwf => repeat (first | exact bY _ | refine bU ?_ (by simp [A.ids, O.ids, av, ay, bB, jv, aR (show q + 1 < 9223372036854775808 by have := (hS kc (List.mem_of_getElem? hkc)).2.1; omega)]))
     case mle => repeat (first | exact aZ _ | exact aC _ | refine aY ?_ (by first | rfl | (simp only [av, aL, O.kill, A.kill, Nat.reduceEqDiff, reduceIte, Option.map_some, Option.map_none, List.map_cons, List.map_nil, ay, bB, jv, aR (show q + 1 < 9223372036854775808 by have := (hS kc (List.mem_of_getElem? hkc)).2.1; omega)]; done)))
     case sle => repeat (first | exact aQ _ | exact aK _ | refine aP ?_ (by first | rfl | (simp only [av, aM, A.kill, aN, aO, Nat.reduceEqDiff, reduceIte, ay, bB, jv, aR (show q + 1 < 9223372036854775808 by have := (hS kc (List.mem_of_getElem? hkc)).2.1; omega)]; done)))
   ·intro hge
    replace hge := dnl hge
    obtain rfl : q = kc.methods.length := by omega
    rw [List.take_length] at hno
    repeat (first | refine WI.seq ?_ | refine WI.block ?_ | refine WI.skip ?_ | refine WI.exit ?_ | refine WI.region ah 0 (by decide) (by kernel_rfl) (aG Ni) ?_)
    refine ⟨?_, fun j => j, Le.toT ?_⟩
    ·show tV cs n ((upX cs (cs.length + 1) 0 cn).take (k + 1)) = none
     unfold tV at *
     rw [List.take_add_one, hitem, List.findSome?_append, hInv]
     simp [nZ, hkc, hno]
    ·simp only [bB, jv]
     refine dh ?sle ?mle ?swf ?mwf (fun j hj => fG (hG _ _ _) hj) (by rfl)
     case swf => repeat (first | exact aT _ | refine aU ?_ (by simp [A.ids, av, bB, jv]))
     case mwf => repeat (first | exact bY _ | refine bU ?_ (by simp [A.ids, O.ids, av, bB, jv]))
     case mle => repeat (first | exact aZ _ | exact aC _ | refine aY ?_ (by first | rfl | (simp only [av, aL, O.kill, A.kill, Nat.reduceEqDiff, reduceIte, Option.map_some, Option.map_none, List.map_cons, List.map_nil, bB, jv]; done)))
     case sle => repeat (first | exact aQ _ | exact aK _ | refine aP ?_ (by first | rfl | (simp only [av, aM, A.kill, aN, aO, Nat.reduceEqDiff, reduceIte, bB, jv]; done)))
 case done =>
  intro hI b
  rw [List.take_length] at hI
  repeat (first | refine W.q ?_ | refine W.g ?_ (by simp only [exb, simprocAttr, eT, fH, DID, jv, ql]; rfl))
  refine W.ret ⟨.inr rfl, .inr ⟨b, 1002, rfl, rfl, rfl, ?_⟩⟩
  simp only [Tryz.f38, bE, aD, toT, fin, eT, fH, DID, exb, simprocAttr, jv]
  simp [fM, hI, kY, aS, zeroMethod, bJ]
section
variable {H : Type} {enc : TypeId × Value → H} {w : World} {held : Bool}
theorem ug {N : Nat} : ∀ {l : List Expr}, (∀ x ∈ l, wM N x) → jT N l
 | [], _ => by simp only [jT]
 | x :: l, h => by simp only [jT]; exact ⟨h x (by simp), ug fun y hy => h y (List.mem_cons_of_mem _ hy)⟩
theorem mJ {N : Nat} : ∀ {l : List Stmt}, (∀ x ∈ l, sO N x) → gK N l
 | [], _ => by simp only [gK]
 | x :: l, h => by simp only [gK]; exact ⟨h x (by simp), mJ fun y hy => h y (List.mem_cons_of_mem _ hy)⟩
theorem zP {N : Nat} : ∀ (d n : Nat) (cs : List Value) (x : Expr) (z : DataW H × List MemPlace), iG d w (· < w.heap.size) cs x → DataW.trod enc Tryz.prog w 0 (fun _ => true) held n 29 cs = some z → Rows.uptoBulk z.1 ≤ N → wM N x
 | 0, _, _, _, _, h, _, _ => h.elim
 | d + 1, n, cs, ⟨k, nn, nm, kids⟩, z, ⟨kv, e1, _, _, _, h5⟩, h, hN => by
   subst e1
   obtain ⟨n3, y3, k3, b3⟩ := dX zw (by simp) h (27, 3) (by simp)
   rw [aX _ yV _ _ _ rfl] at k3
   obtain ⟨l3, hall⟩ := eY Tryz.underlying27 AJ (by decide) (fun cs y hy => by cases d with | zero => exact hy.elim | succ d => obtain ⟨_, rfl, -⟩ := hy; rfl) k3 h5
   simp only [wM]
   refine ⟨Nat.le_trans l3 (Nat.le_trans b3 hN), ug fun y hy => ?_⟩
   obtain ⟨n4, cs4, z4, q1, q2, q3⟩ := hall y hy
   exact zP d n4 cs4 y z4 q1 q2 (by omega)
theorem D6 {N d n : Nat} {v : Value} {l : List Expr} {z : DataW H × List MemPlace} (h : RSl 4 (iG d w (· < w.heap.size)) w (· < w.heap.size) v l) (k : DataW.trod enc Tryz.prog w 0 (fun _ => true) held n 27 [v] = some z) (hN : Rows.uptoBulk z.1 ≤ N) : l.length ≤ N ∧ jT N l := by
 obtain ⟨l3, hall⟩ := eY Tryz.underlying27 AJ (by decide) (fun cs y hy => by cases d with | zero => exact hy.elim | succ d => obtain ⟨_, rfl, -⟩ := hy; rfl) k h
 refine ⟨by omega, ug fun y hy => ?_⟩
 obtain ⟨n4, cs4, z4, q1, q2, q3⟩ := hall y hy
 exact zP d n4 cs4 y z4 q1 q2 (by omega)
theorem pE {N : Nat} : ∀ (d n : Nat) (cs : List Value) (x : Stmt) (z : DataW H × List MemPlace), gZ d w (· < w.heap.size) cs x → DataW.trod enc Tryz.prog w 0 (fun _ => true) held n 118 cs = some z → Rows.uptoBulk z.1 ≤ N → sO N x
 | 0, _, _, _, _, h, _, _ => h.elim
 | d + 1, n, cs, ⟨k, nn, ty, nm, es, th, el⟩, z, ⟨ev, tv, fv, e1, _, _, _, _, h6, h7, h8⟩, h, hN => by
   subst e1
   have hlen : ∀ cs y, gZ d w (· < w.heap.size) cs y → cs.length = 7 := fun cs y hy => by cases d with | zero => exact hy.elim | succ d => obtain ⟨_, _, _, rfl, -⟩ := hy; rfl
   obtain ⟨n4, y4, k4, b4⟩ := dX nE (by simp) h (27, 4) (by simp)
   obtain ⟨n5, y5, k5, b5⟩ := dX nE (by simp) h (23, 5) (by simp)
   obtain ⟨n6, y6, k6, b6⟩ := dX nE (by simp) h (23, 6) (by simp)
   rw [aX _ yV _ _ _ rfl] at k4
   rw [aX _ nN _ _ _ rfl] at k5 k6
   obtain ⟨q1, q2⟩ := D6 h6 k4 (Nat.le_trans b4 hN)
   obtain ⟨l5, a5⟩ := eY Tryz.underlying23 nC (by decide) hlen k5 h7
   obtain ⟨l6, a6⟩ := eY Tryz.underlying23 nC (by decide) hlen k6 h8
   simp only [sO]
   refine ⟨q1, q2, Nat.le_trans l5 (Nat.le_trans b5 hN), mJ fun y hy => ?_, Nat.le_trans l6 (Nat.le_trans b6 hN), mJ fun y hy => ?_⟩
   ·obtain ⟨n7, cs7, z7, r1, r2, r3⟩ := a5 y hy
    exact pE d n7 cs7 y z7 r1 r2 (by omega)
   ·obtain ⟨n7, cs7, z7, r1, r2, r3⟩ := a6 y hy
    exact pE d n7 cs7 y z7 r1 r2 (by omega)
theorem JF {d fuel : Nat} {cs : List Value} {x : DataW H × List MemPlace} {p : Program} (hp : iV d w (· < w.heap.size) (.agg cs.toArray) p) (h : DataW.trod enc Tryz.prog w 0 (fun _ => true) held fuel 25 cs = some x) (hN : Rows.uptoBulk x.1 ≤ 1048576) : mZ p.classes := by
 obtain ⟨cv, mv, e1, h1, -⟩ := hp
 have e2 : cs = [cv, mv] := by simpa using congrArg Array.toList (Value.agg.inj e1)
 subst e2
 obtain ⟨n1, y1, k1, b1⟩ := dX jO (by simp) h (22, 0) (by simp)
 rw [aX _ rT _ _ _ rfl] at k1
 obtain ⟨l1, hall⟩ := eY Tryz.underlying22 uU (by decide) (fun cs y hy => by obtain ⟨_, _, rfl, -⟩ := hy; rfl) k1 h1
 intro c hc m hm
 obtain ⟨n2, cs2, y2, hc2, k2, b2⟩ := hall c hc
 obtain ⟨fv, mv2, rfl, -, -, hf, hmm⟩ := hc2
 obtain ⟨n4, y4, k4, b4⟩ := dX lH (by simp) k2 (40, 3) (by simp)
 rw [aX _ rQ _ _ _ rfl] at k4
 obtain ⟨l4, hall4⟩ := eY Tryz.underlying40 qA (by decide) (fun cs y hy => by obtain ⟨_, _, rfl, -⟩ := hy; rfl) k4 hmm
 obtain ⟨n5, cs5, y5, hc5, k5, b5⟩ := hall4 m hm
 obtain ⟨pv, bv, rfl, -, -, -, hbody⟩ := hc5
 obtain ⟨n6, y6, k6, b6⟩ := dX l7 (by simp) k5 (23, 3) (by simp)
 rw [aX _ nN _ _ _ rfl] at k6
 obtain ⟨l6, a6⟩ := eY Tryz.underlying23 nC (by decide) (fun cs y hy => by cases d with | zero => exact hy.elim | succ d => obtain ⟨_, _, _, rfl, -⟩ := hy; rfl) k6 hbody
 refine ⟨by omega, mJ fun y hy => ?_⟩
 obtain ⟨n7, cs7, z7, r1, r2, r3⟩ := a6 y hy
 exact pE d n7 cs7 y z7 r1 r2 (by omega)
end
theorem mD {m m' : Mem} (h : m = m') : MLe m m' := h ▸ aC m
theorem fT {m m' : Mem} {j : Nat} {x : Option O} (h : MLe m m') (hj : m' j = none) : MLe (upd m j x) m' := fun u => by
 unfold upd; split
 ·rename_i e; subst e; exact .inl hj
 ·exact h u
theorem iO {α : Type} (f : Nat → α) (t : Nat) (x y : α) : upd (upd f t x) t y = upd f t y := by
 funext u; unfold upd; split <;> rfl
theorem wX {α : Type} (f : Nat → α) {t : Nat} {x : α} (h : f t = x) : upd f t x = f := by
 funext u; unfold upd; split
 ·rename_i e; subst e; exact h.symm
 ·rfl
theorem Dp {M : Mem} {b0 : Nat} (hM : ∀ d, M (b0 + d) = none) {p : Nat} {o : O} (h : M p = some o) (d : Nat) : (p = b0 + d) = False := by
 refine eq_false fun e => ?_
 subst e; rw [hM] at h; cases h
theorem Bj {M : Mem} {b0 : Nat} (hM : ∀ d, M (b0 + d) = none) {p : Nat} {o : O} (h : M p = some o) (d : Nat) : (b0 + d = p) = False := by
 refine eq_false fun e => ?_
 subst e; rw [hM] at h; cases h
theorem dA {M : Mem} {j : Nat} {o : O} (hw : WFm M) (ho : ∀ i ∈ o.ids, (upd M j (some o) i).isSome = true) : WFm (upd M j (some o)) := fun id z hz i hi => by
 unfold upd at hz
 split at hz
 ·cases hz; exact ho i hi
 ·have := hw id z hz i hi
  unfold upd; split
  ·rfl
  ·exact this
theorem bV {M : Mem} {j : Nat} {o : O} : ∀ i, (M i).isSome = true → (upd M j (some o) i).isSome = true := fun i hi => by
 unfold upd; split
 ·rfl
 ·exact hi
theorem Iw : A1.ren (fun j => j) = id := funext fun a => by cases a <;> rfl
theorem mQ : A.ren (fun j => j) = id := funext fun a => by cases a <;> simp [A.ren, Iw]
theorem PK (o : O) : O.ren (fun j => j) o = o := by cases o <;> simp [O.ren, Iw, mQ]
theorem oZ {P : Go.Program} {T : Tab} (hT : T.Ok P) {f : FuncId} {fn : Func} {c : Code} {l : List ResultVar} {args : List A} {M : Mem} (D : List Nat) {r : A} {M' : Mem} (hf : P.funcs[f]? = some fn) (hn : (fn.name == "runtime.NumGoroutine") = false) (hb : fn.body = some c) (hl : fn.results.toList = l)
 (hle : decide (args.length ≤ fn.ntmps ∧ fn.ntmps ≤ DID) = true) (hdf : args.all (fun a => !(match a with | .defs _ => true | _ => false)) = true) (hids : ∀ a ∈ args, ∀ j ∈ a.ids, (M j).isSome = true) (hr : ∀ j ∈ r.ids, (M' j).isSome = true) (hsub : ∀ j, (M j).isSome = true → (M' j).isSome = true) (hwm : WFm M → WFm M')
 (hW : WFm M → ∀ R : Ref, R.keep = (fun j => (M j).isSome = true ∧ j ∉ D) → W P R fn.ntmps [] ⟨entry args, M⟩ c (fun e st => (e = .normal ∨ e = .ret) ∧ dfs (st.s DID) = [] ∧ resE T st l = some r ∧ MLe st.m M')) : gU P f args M D r M' := by
 refine ⟨enters_of hf hn hb, hr, hsub, hwm, ?_⟩
 intro w0 I0 B I w vals hm hv
 have hWF : WFm M := hm.live
 refine (MS hT (D := D) hf hb hl (of_decide_eq_true hle).1 (of_decide_eq_true hle).2 hids (fun a ha l e => by have := List.all_eq_true.1 hdf a ha; subst e; simp at this) (enters_of hf hn hb) hr hsub hwm (fun R hR => ?_)).2.2.2.2 w0 I0 B I w vals hm hv
 refine W.mono (hW hWF R hR) fun e st ⟨h1, h2, h3, h4⟩ => ⟨h1, h2, fun j => j, r, h3, ?_⟩
 have hwf' : WFm M' := hwm hWF
 refine ⟨fun t => .inr ?_, fun j o ho => ?_, fun i j _ _ e => e, ⟨fun t j hj => ?_, hwf'⟩, fun j hj => ?_, ?_⟩
 ·show (upd (fun _ => A.top) 0 r t).ren (fun j => j) = _
  rw [mQ]; rfl
 ·rw [PK]
  rcases h4 j with q | q
  ·rw [show (⟨upd (fun _ => A.top) 0 r, M'⟩ : St).m j = M' j from rfl, q] at ho; cases ho
  ·exact q.symm.trans ho
 ·show (M' j).isSome = true
  have hj : j ∈ (upd (fun _ => A.top) 0 r t).ids := hj
  unfold upd at hj
  split at hj
  ·exact hr j hj
  ·simp [A.ids] at hj
 ·rw [hR] at hj
  exact ⟨rfl, hsub j hj.1⟩
 ·show dfs (upd (fun _ => A.top) 0 r DID) = dfs (upd (fun _ => A.top) 0 r DID)
  rfl
theorem EA {M m : Mem} (hw : WFm M) (h : ∀ i, (M i).isSome = true → (m i).isSome = true) : MWf m M := fun id o ho j hj => h j (hw id o ho j hj)
def bP (T : Tab) (ops : Array Oper) (listed : Array Bool) (i : Nat) : Bool :=
 (Region.ready .any ops listed).contains i && (List.range ops.size).all fun j => j == i || listed.getD j true || (match ops[i]?, ops[j]? with | some oi, some oj => indep T ops oi oj | _, _ => false) || FQ ops ops.size j i
section
variable {P : Go.Program} {T : Tab} {kp : Nat → Prop} {base : Nat} {ops : Array Oper} {K : St → Prop}
theorem qM {listed : Array Bool} {i k : Nat} {d : Bool} : (listed.setIfInBounds i true).getD k d = if i = k ∧ i < listed.size then true else listed.getD k d := by
 rw [Array.getD_eq_getD_getElem?, Array.getD_eq_getD_getElem?, Array.getElem?_setIfInBounds]
 by_cases e : i = k
 ·subst e
  by_cases h : i < listed.size
  ·simp [h]
  ·simp [h]
 ·simp [e]
theorem pV {listed : Array Bool} {i : Nat} (hsz : listed.size = ops.size) (hc : mh ops listed) (hi : i ∈ Region.ready .any ops listed) : mh ops (listed.setIfInBounds i true) := by
 obtain ⟨h1, oi, h2, h3⟩ := mem_ready.1 hi
 have hlt := (Array.getElem?_eq_some_iff.1 h2).1
 intro k o hk hl e he hb
 have up : listed.getD e.on false = true → (listed.setIfInBounds i true).getD e.on false = true := fun h => by
  rw [qM]; split
  ·rfl
  ·exact h
 rw [qM] at hl
 by_cases q : i = k
 ·subst q
  rw [h2] at hk
  cases hk
  exact up (h3 e he hb)
 ·rw [if_neg (fun z => q z.1)] at hl
  exact up (hc k o hk hl e he hb)
theorem wS {listed : Array Bool} {i k : Nat} (hne : k ≠ i) (hk : k ∈ Region.ready .any ops listed) : k ∈ Region.ready .any ops (listed.setIfInBounds i true) := by
 obtain ⟨h1, o, h2, h3⟩ := mem_ready.1 hk
 refine mem_ready.2 ⟨?_, o, h2, fun e he hb => ?_⟩
 ·rw [qM, if_neg (fun z => hne z.1.symm)]; exact h1
 ·rw [qM]; split
  ·rfl
  ·exact h3 e he hb
theorem set_comm {listed : Array Bool} {i k : Nat} (h : i ≠ k) : (listed.setIfInBounds i true).setIfInBounds k true = (listed.setIfInBounds k true).setIfInBounds i true := by
 apply Array.ext_getElem?
 intro j
 simp only [Array.getElem?_setIfInBounds, Array.size_setIfInBounds]
 by_cases h1 : i = j
 ·have h2 : k ≠ j := fun e => h (h1.trans e.symm)
  simp [h1, h2]
 ·simp [h1]
theorem por {i : Nat} {oi : Oper} (hoi : ops[i]? = some oi) : ∀ (f : Nat) (listed : Array Bool) (st st1 : St), listed.size = ops.size → mh ops listed → bP T ops listed i = true → WF st → HS P T kp base ops oi st st1 → Runs P T kp base ops K f (listed.setIfInBounds i true) st1 →
 Runs P T kp base ops K (f + 1) listed st := by
 intro f
 induction f with
 | zero =>
   intro listed st st1 hsz hc hf hw h hr
   simp only [bP, Bool.and_eq_true] at hf
   have hi : i ∈ Region.ready .any ops listed := by simpa using hf.1
   refine ⟨(fun e => by rw [e] at hi; cases hi), fun k hk o ho => ?_⟩
   by_cases e : k = i
   ·subst e
    rw [hoi] at ho; cases ho
    exact ⟨st1, h, hr⟩
   ·have := wS e hk
    rw [hr.1] at this; cases this
 | succ f ih =>
   intro listed st st1 hsz hc hf hw h hr
   have hf0 := hf
   simp only [bP, Bool.and_eq_true] at hf
   have hi : i ∈ Region.ready .any ops listed := by simpa using hf.1
   obtain ⟨i1, oi', i2, i3⟩ := mem_ready.1 hi
   refine ⟨(fun e => by rw [e] at hi; cases hi), fun k hk o ho => ?_⟩
   by_cases e : k = i
   ·subst e
    rw [hoi] at ho; cases ho
    exact ⟨st1, h, hr⟩
   ·obtain ⟨k1, ok, k2, k3⟩ := mem_ready.1 hk
    rw [k2] at ho; cases ho
    obtain ⟨st2, q1, q2⟩ := hr.2 k (wS e hk) o k2
    have hlt := (Array.getElem?_eq_some_iff.1 k2).1
    have hind : indep T ops oi o = true := by
     have := List.all_eq_true.1 hf.2 k (List.mem_range.2 hlt)
     simp only [Bool.or_eq_true, beq_iff_eq, hoi, k2] at this
     rcases this with ((z | z) | z) | z
     ·exact absurd z e
     ·rw [k1] at z; cases z
     ·exact z
     ·have hl := kT hc _ k o k2 k3 z
      rw [rD hl] at i1; cases i1
    obtain ⟨st3, c1, c2⟩ := HS.comm hind hw h q1
    refine ⟨st3, c1, ih _ st3 st2 Cg (pV hsz hc hk) ?_ (HS.wf hw c1) c2 (by rw [← set_comm (Ne.symm e)]; exact q2)⟩
    simp only [bP, Bool.and_eq_true]
    refine ⟨by simpa using wS (Ne.symm e) hi, List.all_eq_true.2 fun j hj => ?_⟩
    have := List.all_eq_true.1 hf.2 j hj
    simp only [Bool.or_eq_true] at this ⊢
    rcases this with ((z | z) | z) | z
    ·exact .inl (.inl (.inl z))
    ·refine .inl (.inl (.inr ?_))
     rw [qM]; split
     ·rfl
     ·exact z
    ·exact .inl (.inr z)
    ·exact .inr z
def mU (P : Go.Program) (T : Tab) (kp : Nat → Prop) (base : Nat) (ops : Array Oper) (K : St → Prop) (f : Nat) (listed : Array Bool) (st : St) : Prop := listed.size = ops.size → mh ops listed → WF st → Runs P T kp base ops K f listed st
theorem Ga {f : Nat} {listed : Array Bool} {st : St} (i : Nat) {o : Oper} (ho : ops[i]? = some o) (hf : bP T ops listed i = true) (h : ∃ st1, HS P T kp base ops o st st1 ∧ mU P T kp base ops K f (listed.setIfInBounds i true) st1) : mU P T kp base ops K (f + 1) listed st := by
 intro hsz hc hw
 obtain ⟨st1, h1, h2⟩ := h
 have hi : i ∈ Region.ready .any ops listed := by
  simp only [bP, Bool.and_eq_true] at hf
  simpa using hf.1
 exact por ho f listed st st1 hsz hc hf hw h1 (h2 Cg (pV hsz hc hi) (HS.wf hw h1))
def Steps (P : Go.Program) (T : Tab) (kp : Nat → Prop) (base : Nat) (ops : Array Oper) (K : St → Prop) (f : Nat) (listed : Array Bool) (st : St) : List Nat → Prop
 | [] => True
 | i :: l => (∃ o st1, ops[i]? = some o ∧ HS P T kp base ops o st st1 ∧ mU P T kp base ops K f (listed.setIfInBounds i true) st1) ∧ Steps P T kp base ops K f listed st l
theorem BN {f : Nat} {listed : Array Bool} {st : St} : ∀ {l : List Nat}, Steps P T kp base ops K f listed st l → ∀ i ∈ l, ∃ o st1, ops[i]? = some o ∧ HS P T kp base ops o st st1 ∧ mU P T kp base ops K f (listed.setIfInBounds i true) st1
 | [], _, i, hi => by cases hi
 | j :: l, h, i, hi => by
   rcases List.mem_cons.1 hi with rfl | hi
   ·exact h.1
   ·exact BN h.2 i hi
theorem wH {f : Nat} {listed : Array Bool} {st : St} (l : List Nat) (hr : Region.ready .any ops listed = l) (hne : l ≠ []) (h : Steps P T kp base ops K f listed st l) : mU P T kp base ops K (f + 1) listed st := by
 intro hsz hc hw
 refine ⟨fun e => absurd (hr.symm.trans e) hne, fun i hi o ho => ?_⟩
 obtain ⟨o', st1, h1, h2, h3⟩ := BN h i (hr ▸ hi)
 rw [ho] at h1; cases h1
 exact ⟨st1, h2, h3 Cg (pV hsz hc hi) (HS.wf hw h2)⟩
theorem wz {f : Nat} {listed : Array Bool} {st : St} (hr : Region.ready .any ops listed = []) (hk : K st) : mU P T kp base ops K f listed st := fun _ _ _ => Ea hr hk
def uH (T : Tab) (base : Nat) (ops : Array Oper) (i : Nat) (st : St) : Option St := match ops[i]? with
 | some o => exec T base ops [o] st
 | none => none
theorem Bb {i : Nat} {st st1 : St} (h : uH T base ops i st = some st1) : ∃ o, ops[i]? = some o ∧ HS P T kp base ops o st st1 := by
 unfold uH at h
 split at h
 ·rename_i o ho
  exact ⟨o, ho, yY h⟩
 ·cases h
theorem Km {f i : Nat} {listed : Array Bool} {st : St} {l : List Nat} (h : ∃ st1, uH T base ops i st = some st1 ∧ mU P T kp base ops K f (listed.setIfInBounds i true) st1) (t : Steps P T kp base ops K f listed st l) : Steps P T kp base ops K f listed st (i :: l) :=
 ⟨let ⟨st1, h1, h2⟩ := h; let ⟨o, ho, hs⟩ := Bb h1; ⟨o, st1, ho, hs, h2⟩, t⟩
theorem dD {f : Nat} {listed : Array Bool} {st : St} (i : Nat) (hf : bP T ops listed i = true) (h : ∃ st1, uH T base ops i st = some st1 ∧ mU P T kp base ops K f (listed.setIfInBounds i true) st1) : mU P T kp base ops K (f + 1) listed st :=
 let ⟨st1, h1, h2⟩ := h; let ⟨_, ho, hs⟩ := Bb h1; Ga i ho hf ⟨st1, hs, h2⟩
theorem step_append (hT : T.Ok P) {f i : Nat} {listed : Array Bool} {st : St} {rl : List Nat} {o : Oper} (ho : ops[i]? = some o) {c : Call} {x y : Operand} {t d : Nat} (id : Nat) {e n b : Nat} (fz : Bool) {zs : List Value} {xs ys : List (List C)} (h : fE ops o st.s = some true) (hop : o.op = .call c) (hc : c.callee = .builtin .append) (ha : c.args = #[x, y]) (ht : c.argTypes = #[t, t]) (hd : o.dst = some d)
 (hx : ev st.s x = .own id) (hm : st.m id = some (jd fz e n xs)) (hy : asC st.m (ev st.s y) = some (.sl ys)) (h1 : T.elem t = some (e, n)) (h2 : T.bytes e = some b) (h3 : T.zero e = some zs) (h4 : zs.length = n) (hkp : ¬ kp id) (hl : ∀ z ∈ ys, z.length = n) (hb : (xs.length + ys.length) * b ≤ 140737488355328) (hb0 : 0 < b)
 (hr : mU P T kp base ops K f (listed.setIfInBounds i true) ⟨upd (gD id st.s) d (.own id), upd (eH id st.m) id (some (jd fz e n (xs ++ ys)))⟩) (tl : Steps P T kp base ops K f listed st rl) : Steps P T kp base ops K f listed st (i :: rl) :=
 ⟨⟨o, _, ho, .eff (AU hT hkp ⟨h, hop, hc, ha, ht, hd, hx, hm, hy, h1, h2, h3, h4, hl, hb, Ci hb hb0⟩), hr⟩, tl⟩
theorem BG {K' : St → Prop} (hk : ∀ st, K st → K' st) : ∀ {f : Nat} {listed : Array Bool} {st : St}, Runs P T kp base ops K f listed st → Runs P T kp base ops K' f listed st
 | 0, _, _, h => ⟨h.1, hk _ h.2⟩
 | _ + 1, _, _, h => ⟨fun e => hk _ (h.1 e), fun i hi o ho => let ⟨st1, h1, h2⟩ := h.2 i hi o ho; ⟨st1, h1, BG hk h2⟩⟩
theorem mU.mono {K' : St → Prop} (hk : ∀ st, K st → K' st) {f : Nat} {listed : Array Bool} {st : St} (h : mU P T kp base ops K f listed st) : mU P T kp base ops K' f listed st := fun a b c => BG hk (h a b c)
theorem xY {n : Nat} (hn : ops.size = n) : mh ops (Array.replicate n false) := fun k o hk h => by
 have hlt := (Array.getElem?_eq_some_iff.1 hk).1
 rw [Array.getD_eq_getD_getElem?, Array.getElem?_replicate, if_pos (by omega)] at h
 cases h
end
section
variable {l n' : Nat} {P : Go.Program} {T : Tab} {R : Ref} {n : Nat} {ds : List Deferred} {st : St} {K : Exit → St → Prop}
end
def Tv (P : Go.Program) (f : FuncId) (args : List A) (m : Mem) (ch : List PanicEntry) : Prop :=
 ∀ (w0 : World) (I0 : Nat → Nat → Prop) (B : Nat → Value) (I : Nat → Nat → Prop) (w : World) (vals : List Value), MR w0 I0 B I m w → RVl B w I args vals →
   Calls P f vals.toArray w fun e w' => e = .panicked ch ∧ Below w.heap.size w w'
def XOk (P : Go.Program) (f : FuncId) (args : List A) (m : Mem) (ch : List PanicEntry) : Prop :=
 (∀ args w, (callFunc f args).run P w = .ok (.enter f args) w) ∧ ∀ m', (∀ j, Reach m args j → m' j = m j) → Tv P f args m' ch
def Cw (P : Go.Program) (f : FuncId) (args : List A) (M : Mem) (D : List Nat) (ch : List PanicEntry) (M' : Mem) : Prop :=
 (∀ args w, (callFunc f args).run P w = .ok (.enter f args) w) ∧ (∀ j, (M j).isSome = true → j ∉ D → (M' j).isSome = true) ∧ (WFm M → WFm M') ∧
 ∀ (w0 : World) (I0 : Nat → Nat → Prop) (B : Nat → Value) (I : Nat → Nat → Prop) (w : World) (vals : List Value), MR w0 I0 B I M w → RVl B w I args vals →
   Calls P f vals.toArray w fun e w' => ∃ B' I', e = .panicked ch ∧ MR w0 I0 B' I' M' w' ∧ Ext w w' I I' ∧ (∀ j, (M j).isSome = true → j ∉ D → B' j = B j)
structure XS (P : Go.Program) (T : Tab) (kp : Nat → Prop) (ops : Array Oper) (o : Oper) (st : St) (ch : List PanicEntry) (st' : St) : Prop where
 run : ∀ (R : Ref) (n : Nat) (ds : List Deferred) (a : Act) (w : World) (K : Act → World → Prop) (Q : Exit → Act → World → Prop), R.keep = kp → SR R n ds st a w → (∀ a' w', SR R n ds st' a' w' → Q (.panic ch) a' w') →
  Region.wanted o (yielded ops a.tmps) = true ∧ o.wp P a w K Q
section
variable {P : Go.Program} {T : Tab} {kp : Nat → Prop} {ops : Array Oper}
theorem SR.below {R : Ref} {n : Nat} {ds : List Deferred} {st : St} {a : Act} {w w' : World} (hr : SR R n ds st a w) (hb : Below w.heap.size w w') : SR R n ds st a w' := by
 obtain ⟨B, I, hm, hx0, hkp, hs⟩ := hr.ex
 have hE : Ext w w' I I := hm.ext hb (fun _ _ k => k)
 exact ⟨⟨B, I, hm.call hb, hx0.trans hE, hkp, fun t => (hs t).mono hE fun _ _ => rfl⟩, hr.ids, hr.size, hr.nn, hr.defs, hr.kept⟩
theorem dS {o : Oper} {st : St} {ch : List PanicEntry} {c : Call} {x : Operand} {f : FuncId} {ids : List Nat} {args : List A} (h : fE ops o st.s = some true) (hop : o.op = .call c) (hc : c.callee = .value x) (hx : ev st.s x = .fn f ids) (hb : ∀ j ∈ ids, ∃ ty cells, st.m j = some (.box ty cells))
 (ha : Cvs st.m (c.args.toList.map (ev st.s) ++ ids.map (A.ptr · 0)) args) (hk : XOk P f args st.m ch) : XS P T kp ops o st ch st := by
 refine ⟨fun R n ds a w K Q hR hr hK => ?_⟩
 obtain ⟨B, I, hm, hx0, hkp0, hs⟩ := hr.ex
 refine ⟨fP hs h, ?_⟩
 have hev := iK hs
 have hfv : a.eval x = .func (.func f) #[] (ids.map B).toArray := by have := hev x; rw [hx] at this; exact this
 have hrv := rV hm ha ((nS hev c.args.toList).append (ny hm hb))
 have hcl := hk.2 st.m (fun _ _ => rfl) R.w0 R.I0 B I w _ hm hrv
 unfold Oper.wp Oper.upon
 have hrun : (execOp a.eval o).run P w = .ok (.enter f (c.args.toList.map a.eval ++ ids.map B).toArray) w := by
  simp only [execOp, hop, resolve, hc, hfv, Deferred.ofValue, Sem.run_bind, Sem.run_pure, Result.andThen_ok, invoke]
  rw [show (#[] ++ Array.map a.eval c.args ++ (List.map B ids).toArray) = (List.map a.eval c.args.toList ++ List.map B ids).toArray by rw [← List.map_toArray]; simp]
  exact hk.1 _ _
 rw [hrun]
 refine hcl.mono ?_
 rintro e w' ⟨rfl, hbl⟩
 exact hK _ _ (hr.below hbl)
theorem iY {o : Oper} {st : St} {ch : List PanicEntry} {c : Call} {x : Operand} {f : FuncId} {ids : List Nat} {args : List A} (h : fE ops o st.s = some true) (hop : o.op = .call c) (hc : c.callee = .value x) (hx : ev st.s x = .fn f ids) (hb : ∀ j ∈ ids, ∃ ty cells, st.m j = some (.box ty cells))
 (ha : Bl st.m (c.args.toList.map (ev st.s) ++ ids.map (A.ptr · 0)) args) (hk : ∀ m, XOk P f args m ch) : XS P T kp ops o st ch st := by
 refine ⟨fun R n ds a w K Q hR hr hK => ?_⟩
 obtain ⟨B, I, hm, hx0, hkp0, hs⟩ := hr.ex
 refine ⟨fP hs h, ?_⟩
 have hev := iK hs
 have hfv : a.eval x = .func (.func f) #[] (ids.map B).toArray := by have := hev x; rw [hx] at this; exact this
 have hrv := A9 hm ha ((nS hev c.args.toList).append (ny hm hb))
 have hcl := (hk Mem.nil).2 Mem.nil (fun _ _ => rfl) R.w0 R.I0 B _ w _ (Jk hm) hrv
 unfold Oper.wp Oper.upon
 have hrun : (execOp a.eval o).run P w = .ok (.enter f (c.args.toList.map a.eval ++ ids.map B).toArray) w := by
  simp only [execOp, hop, resolve, hc, hfv, Deferred.ofValue, Sem.run_bind, Sem.run_pure, Result.andThen_ok, invoke]
  rw [show (#[] ++ Array.map a.eval c.args ++ (List.map B ids).toArray) = (List.map a.eval c.args.toList ++ List.map B ids).toArray by rw [← List.map_toArray]; simp]
  exact (hk Mem.nil).1 _ _
 rw [hrun]
 refine hcl.mono ?_
 rintro e w' ⟨rfl, hbl⟩
 exact hK _ _ (hr.below hbl)
theorem oJ {o : Oper} {st : St} {ch : List PanicEntry} {c : Call} {x : Operand} {f : FuncId} {ids : List Nat} {args : List A} {D : List Nat} {M' : Mem} (hkp : ∀ j ∈ D, ¬ kp j) (h : fE ops o st.s = some true) (hop : o.op = .call c) (hc : c.callee = .value x) (hx : ev st.s x = .fn f ids) (hb : ∀ j ∈ ids, ∃ ty cells, st.m j = some (.box ty cells))
 (ha : Cvs st.m (c.args.toList.map (ev st.s) ++ ids.map (A.ptr · 0)) args) (hk : Cw P f args st.m D ch M') : XS P T kp ops o st ch ⟨bQ D st.s, M'⟩ := by
 obtain ⟨k1, k3, k4, k5⟩ := hk
 refine ⟨fun R n ds a w K Q hR hr hK => ?_⟩
 obtain ⟨B, I, hm, hx0, hkp0, hs⟩ := hr.ex
 refine ⟨fP hs h, ?_⟩
 have hev := iK hs
 have hfv : a.eval x = .func (.func f) #[] (ids.map B).toArray := by have := hev x; rw [hx] at this; exact this
 have hrv := rV hm ha ((nS hev c.args.toList).append (ny hm hb))
 have hcl := k5 R.w0 R.I0 B I w _ hm hrv
 unfold Oper.wp Oper.upon
 have hrun : (execOp a.eval o).run P w = .ok (.enter f (c.args.toList.map a.eval ++ ids.map B).toArray) w := by
  simp only [execOp, hop, resolve, hc, hfv, Deferred.ofValue, Sem.run_bind, Sem.run_pure, Result.andThen_ok, invoke]
  rw [show (#[] ++ Array.map a.eval c.args ++ (List.map B ids).toArray) = (List.map a.eval c.args.toList ++ List.map B ids).toArray by rw [← List.map_toArray]; simp]
  exact k1 _ _
 rw [hrun]
 refine hcl.mono ?_
 rintro e w' ⟨B', I', rfl, h1, h2, h3⟩
 have nkd : ∀ j, R.keep j → j ∉ D := fun j hj hd => hkp j hd (hR ▸ hj)
 have hs' : ∀ t, RV B' w' I' (bQ D st.s t) (a.tmps.getD t undef) := fun t => by
  rcases (jU D st.s t).2 with q | ⟨q, q2⟩
  ·rw [q]; trivial
  ·rw [q]
   exact (hs t).mono h2 fun j hj => h3 j (hr.ids t j hj) (fun hd => q2 j hd hj)
 exact hK _ _ ⟨⟨B', I', h1, hx0.trans h2, fun j hj => (h3 j (hr.kept j hj) (nkd j hj)).trans (hkp0 j hj), hs'⟩,
  fun t j hj => k3 j (hr.ids t j ((jU D st.s t).1 j hj).1) ((jU D st.s t).1 j hj).2, hr.size, hr.nn, by rw [show dfs ((⟨bQ D st.s, M'⟩ : St).s DID) = dfs (st.s DID) from rP D st.s]; exact hr.defs, fun j hj => k3 j (hr.kept j hj) (nkd j hj)⟩
end
def Tp (P : Go.Program) (T : Tab) (kp : Nat → Prop) (base : Nat) (ops : Array Oper) (l : List Oper) (st : St) (ch : List PanicEntry) (k : St → Prop) : Prop :=
 ∃ l1 o l2 st1 st2, l = l1 ++ o :: l2 ∧ RunL P T kp base ops l1 st st1 ∧ XS P T kp ops o st1 ch st2 ∧ k st2
section
variable {P : Go.Program} {T : Tab} {kp : Nat → Prop} {base : Nat} {ops : Array Oper}
variable (hT : T.Ok P) {R : Ref} {n : Nat} {ds : List Deferred}
include hT
theorem Im (hd : ∀ o ∈ ops, ∀ d, o.dst = some d → d < n) {Q : Exit → Act → World → Prop} {i : Nat} {o : Oper} {st1 st2 : St} {ch : List PanicEntry} (ho : ops[i]? = some o) (hx : XS P T R.keep ops o st1 ch st2) (hQ : ∀ a w, SR R n ds st2 a w → Q (.panic ch) a w) :
 ∀ (l l2 : List Nat) (st : St) (a : Act) (w : World), Chain P T R.keep base ops l st st1 → SR R n ds st a w → wpOps P ops Q (l ++ i :: l2) a w
 | [], l2, st, a, w, h, hr => by
   cases h
   rw [List.nil_append, wpOps_cons]
   unfold wpOp
   rw [ho]
   obtain ⟨hw, hgo⟩ := hx.run R n ds a w (wpOps P ops Q l2) Q rfl hr hQ
   dsimp only
   rw [if_pos hw]
   exact .inl hgo
 | j :: l, l2, st, a, w, h, hr => by
   cases h with
   | @cons _ o' _ _ st1' _ hi h1 t =>
     rw [List.cons_append, wpOps_cons]
     unfold wpOp
     rw [hi]
     have hgo := h1.snd hT hr (hd o' (Array.mem_of_getElem? hi)) (K := wpOps P ops Q (l ++ i :: l2)) (Q := Q) (fun a' w' hr' => Im hd ho hx hQ l l2 st1' a' w' t hr')
     dsimp only
     split
     ·rename_i hw; rw [if_pos hw] at hgo; exact .inl hgo
     ·rename_i hw; rw [if_neg hw] at hgo; exact hgo
omit hT in
theorem range_split {n i : Nat} (h : i < n) : List.range n = List.range' 0 i ++ i :: List.range' (i + 1) (n - i - 1) := by
 rw [List.range_eq_range', show n = i + (1 + (n - i - 1)) by omega, ← List.range'_append_1]
 congr 1
 rw [← List.range'_append_1]
 simp [List.range'_one, Nat.add_comm]
omit hT in
theorem pK : ∀ {l : List Oper} {k : Nat} {st st' : St}, (∀ j x, l[j]? = some x → ops[k + j]? = some x) → RunL P T kp base ops l st st' → Chain P T kp base ops (List.range' k l.length) st st'
 | [], _, _, _, _, h => by cases h; exact .nil _
 | o :: l, k, _, _, hl, h => by
   cases h with
   | cons h t =>
     refine .cons (by simpa using hl 0 o rfl) h (pK (fun j x hx => ?_) t)
     have := hl (j + 1) x uQ
     rwa [show k + 1 + j = k + (j + 1) by omega]
theorem W.pan {id : Nat} {st : St} {K : Exit → St → Prop} {ch : List PanicEntry} (hd : jM n ops = true) (h : Tp P T R.keep base ops ops.toList st ch (K (.panic ch))) : W P R n ds st (.region id ops false) K := fun a w hr => by
 obtain ⟨l1, o, l2, st1, st2, h1, h2, h3, h4⟩ := h
 have hi : ops[l1.length]? = some o := by rw [← Array.getElem?_toList, h1]; simp
 have hlt := (Array.getElem?_eq_some_iff.1 hi).1
 refine wp_region ?_
 rw [range_split hlt]
 refine Im hT (base := base) (gB hd) hi h3 (fun a w hr' => ⟨st2, h4, hr'⟩) _ _ st a w ?_ hr
 refine pK (k := 0) (fun j x hx => ?_) h2
 rw [Nat.zero_add, ← Array.getElem?_toList, h1, List.getElem?_append_left (List.getElem?_eq_some_iff.1 hx).1]
 exact hx
end
theorem Mj {P : Go.Program} {T : Tab} {kp : Nat → Prop} {ops : Array Oper} {o : Oper} {st : St} {x : Operand} {t : TypeId} {u : Value} (h : fE ops o st.s = some true) (hop : o.op = .panic x) (hx : ∀ (B : Nat → Value) (w : World) (I : Nat → Nat → Prop) (v : Value), RV B w I (ev st.s x) v → v = .iface t u) : XS P T kp ops o st [{ v := .iface t u, recovered := false }] st := by
 refine ⟨fun R n ds a w K Q hR hr hK => ?_⟩
 obtain ⟨B, I, hm, hx0, hkp0, hs⟩ := hr.ex
 refine ⟨fP hs h, ?_⟩
 have hv := hx B w I _ (iK hs x)
 unfold Oper.wp Oper.upon
 have hrun : (execOp a.eval o).run P w = .halt (.panic (.iface t u)) w := by
  simp only [execOp, hop, hv]
  rfl
 rw [hrun]
 exact hK _ _ hr
theorem QV {P : Go.Program} {T : Tab} {f : FuncId} {fn : Func} {c : Code} {args : List A} {ch : List PanicEntry} (hT : T.Ok P) (hf : P.funcs[f]? = some fn) (hn : (fn.name == "runtime.NumGoroutine") = false) (hb : fn.body = some c) (hd : args.all (fun a => a.ids.isEmpty && !(match a with | .defs _ => true | _ => false)) = true) (hle : decide (args.length ≤ fn.ntmps ∧ fn.ntmps ≤ DID) = true)
 (hW : ∀ R : Ref, R.keep = (fun _ => False) → W P R fn.ntmps [] ⟨entry args, Mem.nil⟩ c (fun e st => e = .panic ch ∧ dfs (st.s DID) = [])) (m : Mem) : XOk P f args m ch := by
 refine ⟨enters_of hf hn hb, fun m' _ => ?_⟩
 intro w0 I0 B I w vals hm hv
 have hd1 : ∀ a ∈ args, a.ids = [] := fun a ha => by have := List.all_eq_true.1 hd a ha; simp only [Bool.and_eq_true] at this; simpa using this.1
 have hd2 : ∀ a ∈ args, ∀ l, a ≠ .defs l := fun a ha l e => by have := List.all_eq_true.1 hd a ha; subst e; simp at this
 obtain ⟨hl1, hl2⟩ := of_decide_eq_true hle
 have hlen := lZ hv
 refine calls_of_wp hf hb ?_
 have h0 : SR ⟨w, I, w, I, B, fun _ => False⟩ fn.ntmps [] ⟨entry args, Mem.nil⟩ { tmps := vals.toArray ++ Array.replicate (fn.ntmps - vals.toArray.size) undef, defers := [] } w := by
  refine ⟨⟨B, I, ⟨Below.refl _ _, hm.pO, fun _ _ h => h, fun _ _ h => .inl h, hm.there, fun _ _ h => absurd h (bO _), fun _ _ h => absurd h (bO _), fun _ _ _ _ h => absurd h (bO _), fun _ _ h => absurd h (bO _)⟩, Ext.refl _ _, fun _ _ => rfl, j4 hv⟩, fun t j hj => ?_, by simp [hlen]; omega, hl2, by rw [show dfs ((⟨entry args, Mem.nil⟩ : St).s DID) = [] from j6 (fun a ha l e => by subst e; exact hd2 _ ha l rfl)]; rfl, fun j hj => hj.elim⟩
  simp only [entry, List.getD_eq_getElem?_getD] at hj
  cases hx : args[t]? with
  | none => rw [hx] at hj; simp [A.ids] at hj
  | some a => rw [hx] at hj; simp [hd1 a (List.mem_of_getElem? hx)] at hj
 refine wp_mono (hW _ rfl _ w h0) ?_
 rintro e a' w' ⟨st', ⟨rfl, hdn⟩, ⟨⟨B', I', hm', hx', -, hs'⟩, -, -, -, hds, -⟩⟩
 rw [hdn] at hds
 exact ⟨hds, rfl, hm'.below⟩
theorem IW {P : Go.Program} {T : Tab} (hT : T.Ok P) {f : FuncId} {fn : Func} {c : Code} {args : List A} {M : Mem} (D : List Nat) {ch : List PanicEntry} {M' : Mem} (hf : P.funcs[f]? = some fn) (hn : (fn.name == "runtime.NumGoroutine") = false) (hb : fn.body = some c)
 (hle : decide (args.length ≤ fn.ntmps ∧ fn.ntmps ≤ DID) = true) (hdf : args.all (fun a => !(match a with | .defs _ => true | _ => false)) = true) (hids : ∀ a ∈ args, ∀ j ∈ a.ids, (M j).isSome = true) (hsub : ∀ j, (M j).isSome = true → j ∉ D → (M' j).isSome = true) (hwm : WFm M → WFm M')
 (hW : WFm M → ∀ R : Ref, R.keep = (fun j => (M j).isSome = true ∧ j ∉ D) → W P R fn.ntmps [] ⟨entry args, M⟩ c (fun e st => e = .panic ch ∧ dfs (st.s DID) = [] ∧ MLe st.m M')) : Cw P f args M D ch M' := by
 refine ⟨enters_of hf hn hb, hsub, hwm, ?_⟩
 intro w0 I0 B I w vals hm hv
 have hWF : WFm M := hm.live
 have hd2 : ∀ a ∈ args, ∀ l, a ≠ .defs l := fun a ha l e => by have := List.all_eq_true.1 hdf a ha; subst e; simp at this
 obtain ⟨hl1, hl2⟩ := of_decide_eq_true hle
 have hlen := lZ hv
 refine calls_of_wp hf hb ?_
 have h0 : SR ⟨w0, I0, w, I, B, fun j => (M j).isSome = true ∧ j ∉ D⟩ fn.ntmps [] ⟨entry args, M⟩ { tmps := vals.toArray ++ Array.replicate (fn.ntmps - vals.toArray.size) undef, defers := [] } w := by
  refine ⟨⟨B, I, hm, Ext.refl _ _, fun _ _ => rfl, j4 hv⟩, fun t i hi => ?_, by simp [hlen]; omega, hl2, by rw [show dfs ((⟨entry args, M⟩ : St).s DID) = [] from j6 (fun a ha l e => by subst e; exact hd2 _ ha l rfl)]; rfl, fun i hi => hi.1⟩
  simp only [entry, List.getD_eq_getElem?_getD] at hi
  cases hx : args[t]? with
  | none => rw [hx] at hi; simp [A.ids] at hi
  | some a => rw [hx] at hi; exact hids a (List.mem_of_getElem? hx) i hi
 refine wp_mono (hW hWF _ rfl _ w h0) ?_
 rintro e a' w' ⟨st', ⟨rfl, hdn, hle⟩, ⟨⟨B', I', hm', hx', hkp', hs'⟩, -, -, -, hds, -⟩⟩
 rw [hdn] at hds
 have hsome : ∀ j o, M' j = some o → st'.m j = some o := fun j o ho => by
  rcases hle j with q | q
  ·rw [q] at ho; cases ho
  ·exact q.symm.trans ho
 have hwm' := hwm hWF
 have hm2 : MR w0 I0 B' I' M' w' := ⟨hm'.below, hm'.glob, hm'.base, hm'.old, hm'.there, fun j o ho => hm'.objs j o (hsome j o ho), fun j o ho => hm'.low j o (hsome j o ho), fun j o j' o' ho ho' => hm'.apart j o j' o' (hsome j o ho) (hsome j' o' ho'), fun j o ho i hi => hwm' j o ho i hi⟩
 exact ⟨hds, B', I', rfl, hm2, hx', fun j hj hd => hkp' j ⟨hj, hd⟩⟩
section
variable {P : Go.Program} {T : Tab} (hT : T.Ok P) {R : Ref} {n base : Nat} {ds : List Deferred} {ops : Array Oper} {ch : List PanicEntry}
include hT in
include hT in
end
section
variable {P : Go.Program} {T : Tab} {kp : Nat → Prop} {base f : Nat} {ops : Array Oper} {ch : List PanicEntry} {K Kp : St → Prop} {listed : Array Bool} {st : St}
end
def LY : Op → Bool
 | .move _ => true
 | .load .. => true
 | _ => false
theorem F7 {T : Tab} {s : Nat → A} {m : Mem} {id : Nat} {ty : TypeId} {x : Operand} {r : A} {ob : Option O} (hq : qv1 T s m id (.load ty x) = some (r, ob)) : ob = none := by
 simp only [qv1] at hq
 repeat' split at hq
 all_goals first | (cases hq; rfl) | (cases hq)
theorem HZ {T : Tab} {s : Nat → A} {m : Mem} {id : Nat} {ty : TypeId} {x : Operand} {r : A} {ob : Option O} (hq : qv2 T s m id (.load ty x) = some (r, ob)) : ob = none := by
 simp only [qv2] at hq
 repeat' split at hq
 all_goals first | (cases hq; rfl) | (cases hq)
theorem J7 {T : Tab} {s : Nat → A} {m : Mem} {id : Nat} {op : Op} {r : A} {ob : Option O} (h : LY op = true) (hq : qv T s m id op = some (r, ob)) : ob = none := by
 cases op with
 | move x => cases hq; rfl
 | load ty x =>
   unfold qv at hq
   split at hq
   ·rename_i h1; cases hq; exact F7 h1
   ·exact HZ hq
 | _ => cases h
theorem KM {P : Go.Program} {T : Tab} {kp : Nat → Prop} {base : Nat} {ops : Array Oper} {o : Oper} {st st' : St} (ht : LY o.op = true) (h : HS P T kp base ops o st st') : st'.m = st.m ∧ ∀ t, o.dst ≠ some t → st'.s t = st.s t := by
 have put : ∀ r : A, ∀ t, o.dst ≠ some t → dw st.s o.dst r t = st.s t := fun r t hne => by
  cases hd : o.dst with
  | none => rfl
  | some d => exact upd_ne _ _ (fun e => hne (by rw [hd, e]))
 cases h with
 | @val r ob h =>
   have hob : ob = none := by
    cases h with
    | skip => rfl
    | val _ hq _ _ => exact J7 ht hq
    | call => rfl
    | callF => rfl
    | callR => rfl
   subst hob
   exact ⟨rfl, put r⟩
 | store h => have := h.op; rw [this] at ht; cases ht
 | eff h =>
   have := h.bar
   cases hop : o.op <;> rw [hop] at ht this <;> simp [LY] at ht <;> simp [kind] at this
theorem AX {P : Go.Program} {T : Tab} {kp : Nat → Prop} {base : Nat} {ops : Array Oper} {need : List Nat} : ∀ {l : List Nat} {st st' : St}, (∀ i ∈ l, ∀ o, ops[i]? = some o → LY o.op = true ∧ ∀ t ∈ need, o.dst ≠ some t) → Chain P T kp base ops l st st' → st'.m = st.m ∧ ∀ t ∈ need, st'.s t = st.s t
 | [], _, _, _, h => by cases h; exact ⟨rfl, fun _ _ => rfl⟩
 | i :: l, _, _, hl, h => by
   cases h with
   | cons hi h t =>
     obtain ⟨h1, h2⟩ := hl i (by simp) _ hi
     obtain ⟨q1, q2⟩ := KM h1 h
     obtain ⟨q3, q4⟩ := AX (need := need) (fun j hj => hl j (List.mem_cons_of_mem _ hj)) t
     exact ⟨q3.trans q1, fun t ht => (q4 t ht).trans (q2 t (h2 t ht))⟩
def LB (T : Tab) (ops : Array Oper) (p : Nat) (need : List Nat) : Bool :=
 decide (p < ops.size) && (List.range (p + 1)).all (Fj T ops) && ((List.range ops.size).all fun k => decide (k ≤ p) || FQ ops ops.size k p) && ((List.range p).all fun k => FQ ops ops.size p k || (match ops[k]? with | some o => LY o.op && !(need.any fun t => o.dst == some t) | none => true))
theorem exists_least (f : Nat → Bool) : ∀ p, f p = false → ∃ i, i ≤ p ∧ f i = false ∧ ∀ j, j < i → f j = true := by
 intro p
 induction p using Nat.strongRecOn with
 | ind p ih =>
   intro h
   by_cases hj : ∃ j, j < p ∧ f j = false
   ·obtain ⟨j, h1, h2⟩ := hj
    obtain ⟨i, h3, h4, h5⟩ := ih j h1 h2
    exact ⟨i, by omega, h4, h5⟩
   ·exact ⟨p, Nat.le_refl _, h, fun j hlt => by
     cases hf : f j with
     | true => rfl
     | false => exact absurd ⟨j, hlt, hf⟩ hj⟩
section
variable {P : Go.Program} {T : Tab} (hT : T.Ok P) {R : Ref} {n base : Nat} {ds : List Deferred} {ops : Array Oper} {ch : List PanicEntry}
include hT
theorem Lj {p : Nat} {need : List Nat} (hok : LB T ops p need = true) (hd : ∀ o ∈ ops, ∀ d, o.dst = some d → d < n) {Q : Exit → Act → World → Prop} {stp : St} {op : Oper} (hop : ops[p]? = some op) (hx : ∀ st, (∀ t ∈ need, st.s t = stp.s t) → st.m = stp.m → ∃ st', XS P T R.keep ops op st ch st' ∧ ∀ a w, SR R n ds st' a w → Q (.panic ch) a w) :
 ∀ (fuel : Nat) (listed : Array Bool) (l : List Nat) (st : St) (a : Act) (w : World), l.length + 1 ≤ fuel → listed.size = ops.size → l.Pairwise (· < ·) → (∀ i, i ∈ l ↔ i < p ∧ listed.getD i true = false) → listed.getD p true = false → mh ops listed → SR R n ds st a w → Chain P T R.keep base ops l st stp →
   wpAny P .any ops Q fuel listed a w := by
 simp only [LB, Bool.and_eq_true, decide_eq_true_eq] at hok
 obtain ⟨⟨⟨hp, hok1⟩, hok2⟩, hok3⟩ := hok
 have hokAt : ∀ k, k ≤ p → Fj T ops k = true := fun k hk => List.all_eq_true.1 hok1 k (List.mem_range.2 (by omega))
 intro fuel
 induction fuel with
 | zero => intro listed l st a w hl; omega
 | succ fuel ih =>
   intro listed l st a w hl hsz hpw hmem hlp hc hr hch
   -- p, once all that it waits for has come up
   have ready_p : ∀ {i : Nat}, i ∈ Region.ready .any ops listed → i ≤ p := fun {i} hi => by
    obtain ⟨h1, oi, h2, h3⟩ := mem_ready.1 hi
    have hlt := (Array.getElem?_eq_some_iff.1 h2).1
    have := List.all_eq_true.1 hok2 i (List.mem_range.2 hlt)
    simp only [Bool.or_eq_true, decide_eq_true_eq] at this
    refine this.resolve_right fun ha => ?_
    have hjl := kT hc _ i oi h2 h3 ha
    rw [rD hjl] at hlp
    cases hlp
   constructor
   ·intro hnil
    exfalso
    -- the least that has not come up
    have least : ∀ i, i ≤ p → listed.getD i true = false → (∀ j, j < i → listed.getD j true = true) → i ∈ Region.ready .any ops listed := by
     intro i hip hli hbel
     have hilt : i < ops.size := by omega
     rw [mem_ready]
     refine ⟨hli, ops[i], by simp [hilt], fun e he hb => ?_⟩
     have hk := hokAt i hip
     simp only [Fj, Array.getElem?_eq_getElem hilt, Bool.and_eq_true, List.all_eq_true] at hk
     have hlt := hk.1 e FL
     rw [hb] at hlt
     simp at hlt
     have hb1 := hbel e.on hlt
     have hsz2 : e.on < listed.size := by omega
     rw [Array.getD_eq_getD_getElem?, Array.getElem?_eq_getElem hsz2] at hb1 ⊢
     simpa using hb1
    obtain ⟨i, h1, h2, h3⟩ := exists_least (fun i => listed.getD i true) p hlp
    have := least i h1 h2 h3
    rw [hnil] at this
    cases this
   ·intro i hi
    have hip := ready_p hi
    obtain ⟨h1, oi, h2, h3⟩ := mem_ready.1 hi
    have hlt := (Array.getElem?_eq_some_iff.1 h2).1
    rcases Nat.lt_or_eq_of_le hip with hilt | rfl
    ·have hil := (hmem i).2 ⟨hilt, h1⟩
     obtain ⟨l1, l2, rfl⟩ := List.append_of_mem hil
     have hpp := List.pairwise_append.1 hpw
     have hind : ∀ j ∈ l1, ∀ oj, ops[j]? = some oj → indep T ops oj oi = true := fun j hj oj hoj => by
      have hji : j < i := hpp.2.2 j hj i (by simp)
      have hk := hokAt i hip
      simp only [Fj, h2, Bool.and_eq_true, List.all_eq_true] at hk
      have := hk.2 j (List.mem_range.2 hji)
      rw [hoj] at this
      simp only [Bool.or_eq_true] at this
      refine this.resolve_right fun ha => ?_
      have hjl := kT hc _ i oi h2 h3 ha
      have := ((hmem j).1 (by simp [hj])).2
      rw [rD hjl] at this
      cases this
     obtain ⟨st1, h4, h5⟩ := Chain.front h2 hr.wf hind hch
     have hoi : oi ∈ ops := Array.mem_of_getElem? h2
     have hset : ∀ k, (listed.setIfInBounds i true).getD k true = if k = i then true else listed.getD k true := fun k => by
      rw [Array.getD_eq_getD_getElem?, Array.getD_eq_getD_getElem?, Array.getElem?_setIfInBounds]
      by_cases e : i = k
      ·subst e; simp; split <;> rfl
      ·rw [if_neg e, if_neg (Ne.symm e)]
     have hsetf : ∀ k, listed.getD k false = true → (listed.setIfInBounds i true).getD k false = true := fun k hk => by
      rw [Array.getD_eq_getD_getElem?] at hk ⊢
      rw [Array.getElem?_setIfInBounds]
      by_cases e : i = k
      ·subst e; simp [hsz, hlt]
      ·rw [if_neg e]; exact hk
     unfold wpOp
     rw [h2]
     have hgo := h4.snd hT hr (hd oi hoi) (K := wpAny P .any ops Q fuel (listed.setIfInBounds i true)) (Q := Q) (fun a' w' hr' => by
      refine ih _ (l1 ++ l2) st1 a' w' ?_ Cg (hpw.sublist (by simp)) (fun k => ?_) ?_ (fun k o ho hkl e he hb => ?_) hr' h5
      ·simp at hl ⊢; omega
      ·rw [hset]
       by_cases e : k = i
       ·subst e
        rw [if_pos rfl]
        refine ⟨fun hk => ?_, fun hk => by cases hk.2⟩
        exfalso
        rcases List.mem_append.1 hk with hk | hk
        ·have := hpp.2.2 k hk k (by simp); omega
        ·have := (List.pairwise_cons.1 hpp.2.1).1 k hk; omega
       ·rw [if_neg e, ← hmem k]
        simp [e]
      ·rw [hset, if_neg (by omega)]; exact hlp
      ·rw [hset] at hkl
       split at hkl
       ·rename_i e'; subst e'
        have : o = oi := Option.some.inj (ho.symm.trans h2)
        subst this
        exact hsetf _ (h3 e he hb)
       ·exact hsetf _ (hc k o ho hkl e he hb))
     dsimp only
     split
     ·rename_i hw; rw [if_pos hw] at hgo; exact .inl hgo
     ·rename_i hw; rw [if_neg hw] at hgo; exact hgo
    ·have hoo : oi = op := Option.some.inj (h2.symm.trans hop)
     subst hoo
     obtain ⟨q1, q2⟩ := AX (need := need) (fun j hj o ho => by
      obtain ⟨hj1, hj2⟩ := (hmem j).1 hj
      have := List.all_eq_true.1 hok3 j (List.mem_range.2 hj1)
      rw [ho] at this
      simp only [Bool.or_eq_true, Bool.and_eq_true, Bool.not_eq_true'] at this
      rcases this with ha | ⟨ha, hb⟩
      ·exfalso
       have hjl := kT hc _ i oi h2 h3 ha
       rw [rD hjl] at hj2
       cases hj2
      ·refine ⟨ha, fun t ht e => ?_⟩
       rw [List.any_eq_false] at hb
       exact hb t ht (by rw [e]; simp)) hch
     obtain ⟨st', hx1, hx2⟩ := hx st (fun t ht => (q2 t ht).symm) q1.symm
     unfold wpOp
     rw [h2]
     obtain ⟨hw, hgo⟩ := hx1.run R n ds a w (wpAny P .any ops Q fuel (listed.setIfInBounds i true)) Q rfl hr hx2
     dsimp only
     rw [if_pos hw]
     exact .inl hgo
end
theorem W.iZ {P : Go.Program} {T : Tab} (hT : T.Ok P) {R : Ref} {n : Nat} {ds : List Deferred} {ops : Array Oper} {ch : List PanicEntry} {base id : Nat} {st : St} {K : Exit → St → Prop} (p : Nat) {op : Oper} (hd : jM n ops = true) (hop : ops[p]? = some op)
 (h : jG P T R.keep base ops (ops.toList.take p) st (fun st1 => ∃ st2, XS P T R.keep ops op st1 ch st2 ∧ K (.panic ch) st2)) : W P R n ds st (.region id ops false) K := by
 obtain ⟨st1, h1, st2, h2, h3⟩ := h
 refine W.pan hT (base := base) hd ⟨ops.toList.take p, op, ops.toList.drop (p + 1), st1, st2, ?_, h1, h2, h3⟩
 have hlt := (Array.getElem?_eq_some_iff.1 hop).1
 have : ops.toList[p]? = some op := by rw [Array.getElem?_toList]; exact hop
 obtain ⟨hl, he⟩ := List.getElem?_eq_some_iff.1 this
 rw [← he, ← List.drop_eq_getElem_cons hl, List.take_append_drop]
theorem W.sj {P : Go.Program} {T : Tab} (hT : T.Ok P) {R : Ref} {n : Nat} {ds : List Deferred} {ops : Array Oper} {ch : List PanicEntry} {base id : Nat} {st : St} {K : Exit → St → Prop} (p : Nat) (need : List Nat) {op : Oper} (hm : P.follows .mixedOrders = true) (hok : LB T ops p need = true) (hd : jM n ops = true) (hop : ops[p]? = some op)
 (h : jG P T R.keep base ops (ops.toList.take p) st (fun stp => ∀ st', (∀ t ∈ need, st'.s t = stp.s t) → st'.m = stp.m → ∃ st2, XS P T R.keep ops op st' ch st2 ∧ K (.panic ch) st2)) : W P R n ds st (.region id ops true) K := fun a w hr => by
 obtain ⟨stp, h1, hx⟩ := h
 have hp : p < ops.size := (Array.getElem?_eq_some_iff.1 hop).1
 have hch : Chain P T R.keep base ops (List.range p) st stp := by
  have h1 := pK (P := P) (T := T) (kp := R.keep) (base := base) (ops := ops) (k := 0) (l := ops.toList.take p) (fun j x hx => by
   rw [Nat.zero_add, ← Array.getElem?_toList]
   rw [List.getElem?_take] at hx
   split at hx
   ·exact hx
   ·cases hx) h1
  have h2 : (ops.toList.take p).length = p := by rw [List.length_take, Array.length_toList]; omega
  rw [h2] at h1
  rw [List.range_eq_range']; exact h1
 refine wp_region_any hm (Lj (ch := ch) hT hok (gB hd) hop (fun st' h1 h2 => ?_) _ _ (List.range p) st a _ ?_ (by simp) List.pairwise_lt_range (fun i => ?_) ?_ (xY rfl) (hr.below (Below.refl _ _).drew) hch)
 ·obtain ⟨st2, h3, h4⟩ := hx st' h1 h2
  exact ⟨st2, h3, fun a w hr' => ⟨st2, h4, hr'⟩⟩
 ·simp; omega
 ·rw [List.mem_range]
  refine ⟨fun hi => ⟨hi, ?_⟩, fun hi => hi.1⟩
  have : i < ops.size := by omega
  simp [this]
 ·simp [hp]
def TOk (P : Go.Program) (f : FuncId) (args : List A) (m : Mem) (ch : List PanicEntry) : Option A → Prop
 | some r => COk P f args m r
 | none => XOk P f args m ch
theorem vK {P : Go.Program} {T : Tab} (hT : T.Ok P) {f : FuncId} {fn : Func} {c : Code} {l : List ResultVar} {args : List A} {ch : List PanicEntry} (r : Option A) (hf : P.funcs[f]? = some fn) (hn : (fn.name == "runtime.NumGoroutine") = false) (hb : fn.body = some c) (hl : fn.results.toList = l) (hd : args.all (fun a => a.ids.isEmpty && !(match a with | .defs _ => true | _ => false)) = true) (hr : ∀ x, r = some x → x.ids = []) (hle : decide (args.length ≤ fn.ntmps ∧ fn.ntmps ≤ DID) = true)
 (hW : ∀ R : Ref, R.keep = (fun _ => False) → W P R fn.ntmps [] ⟨entry args, Mem.nil⟩ c (fun e st => dfs (st.s DID) = [] ∧ match r with | some x => (e = .normal ∨ e = .ret) ∧ bE T st l = some x | none => e = .panic ch)) (m : Mem) : TOk P f args m ch r := by
 cases r with
 | some x => exact cB hT hf hn hb hl hd (hr x rfl) hle (fun R hR => W.mono (hW R hR) fun e st ⟨h1, h2, h3⟩ => ⟨h2, h1, h3⟩) m
 | none => exact QV hT hf hn hb hd hle (fun R hR => W.mono (hW R hR) fun e st ⟨h1, h2⟩ => ⟨h2, h1⟩) m
def R5 (P : Go.Program) (f : FuncId) (args : List A) (M : Mem) (D : List Nat) (ch : List PanicEntry) (Mx : Mem) : Option (A × Mem) → Prop
 | some (r, M') => gU P f args M D r M'
 | none => Cw P f args M D ch Mx
theorem LH {P : Go.Program} {T : Tab} (hT : T.Ok P) {f : FuncId} {fn : Func} {c : Code} {l : List ResultVar} {args : List A} {M : Mem} (D : List Nat) {ch : List PanicEntry} {Mx : Mem} (r : Option (A × Mem)) (hf : P.funcs[f]? = some fn) (hn : (fn.name == "runtime.NumGoroutine") = false) (hb : fn.body = some c) (hl : fn.results.toList = l)
 (hle : decide (args.length ≤ fn.ntmps ∧ fn.ntmps ≤ DID) = true) (hdf : args.all (fun a => !(match a with | .defs _ => true | _ => false)) = true) (hids : ∀ a ∈ args, ∀ j ∈ a.ids, (M j).isSome = true)
 (hr : ∀ x M', r = some (x, M') → (∀ j ∈ x.ids, (M' j).isSome = true) ∧ (∀ j, (M j).isSome = true → (M' j).isSome = true) ∧ (WFm M → WFm M')) (hsx : ∀ j, (M j).isSome = true → j ∉ D → (Mx j).isSome = true) (hwx : WFm M → WFm Mx)
 (hW : WFm M → ∀ R : Ref, R.keep = (fun j => (M j).isSome = true ∧ j ∉ D) → W P R fn.ntmps [] ⟨entry args, M⟩ c (fun e st => dfs (st.s DID) = [] ∧ match r with | some (x, M') => (e = .normal ∨ e = .ret) ∧ resE T st l = some x ∧ MLe st.m M' | none => e = .panic ch ∧ MLe st.m Mx)) : R5 P f args M D ch Mx r := by
 match r, hr, hW with
 | some (x, M'), hr, hW =>
   obtain ⟨h1, h2, h3⟩ := hr x M' rfl
   exact oZ hT D hf hn hb hl hle hdf hids h1 h2 h3 (fun hWF R hR => W.mono (hW hWF R hR) fun e st ⟨q1, q2, q3, q4⟩ => ⟨q2, q1, q3, q4⟩)
 | none, hr, hW =>
   exact IW hT D hf hn hb hle hdf hids hsx hwx (fun hWF R hR => W.mono (hW hWF R hR) fun e st ⟨q1, q2, q3⟩ => ⟨q2, q1, q3⟩)
def gq (E : Int) (cs : List Class) (n : ByteArray) : List ByteArray := if E = 0 then gV cs (cs.length + 1) n else []
theorem tN (b : Bool) : (Lit.int .i64 (bH b)).wf = true := by cases b <;> decide
theorem FZ (p : Program) (m : Mem) : COk Tryz.prog 17 [.agg (dz p)] m (.c (.int .i64 (bH (bG p)))) := by
 refine ⟨enters_of Tryz.func17 (by kernel_rfl) rfl, rfl, fun m' _ => ?_⟩
 intro w0 I0 B I w vals hm hv
 match vals, hv with
 | [v], ⟨h1, _⟩ =>
   obtain ⟨d, hp⟩ := Em hm.there h1
   refine (Dv d w v p hp).mono ?_
   rintro e w' ⟨rfl, hb⟩
   exact ⟨_, I, rfl, hb, fun _ _ k => k, fun _ _ k => .inl k, .int (tN _)⟩
theorem Qe (p : Program) (m : Mem) : COk Tryz.prog 25 [.agg (dz p)] m (.c (.int .i64 (bH (bG p)))) := by
 refine ⟨enters_of Tryz.func25 (by kernel_rfl) rfl, rfl, fun m' _ => ?_⟩
 intro w0 I0 B I w vals hm hv
 match vals, hv with
 | [v], ⟨h1, _⟩ =>
   obtain ⟨d, hp⟩ := Em hm.there h1
   refine (JB d w v p hm.pO.max hp).mono ?_
   rintro e w' ⟨rfl, hb⟩
   exact ⟨_, I, rfl, hb, fun _ _ k => k, fun _ _ k => .inl k, .int (tN _)⟩
end V
end Go.Proofs.YthhpcjoaogmhbaaGreatDoor
end
section
namespace Go.Proofs.YthhpcjoaogmhbaaGreatDoor
namespace V
theorem Ei (bs : ByteArray) : ∀ (n i : Nat) (r : List UInt8), bs.size - i = n → ByteArray.toList.loop bs i r = r.reverse ++ bs.data.toList.drop i := by
 intro n
 induction n with
 | zero =>
   intro i r h
   unfold ByteArray.toList.loop
   have : ¬ i < bs.size := by omega
   rw [if_neg this, List.drop_eq_nil_of_le (by rw [Array.length_toList]; show bs.size ≤ i; omega)]
   simp
 | succ n ih =>
   intro i r h
   have hi : i < bs.size := by omega
   unfold ByteArray.toList.loop
   rw [if_pos hi, ih (i + 1) _ (by omega)]
   have hl : i < bs.data.toList.length := by rw [Array.length_toList]; exact hi
   rw [List.drop_eq_getElem_cons hl]
   have : bs.get! i = bs.data.toList[i] := by
    have hi' : i < bs.data.size := hi
    show bs.data[i]! = _
    rw [getElem!_pos bs.data i hi']; simp
   rw [this]; simp
theorem toList_data (s : ByteArray) : s.toList = s.data.toList := by
 unfold ByteArray.toList
 rw [Ei s _ 0 [] rfl]; simp
theorem toList_inj {a b : ByteArray} : a.toList = b.toList ↔ a = b := by
 rw [toList_data, toList_data]
 refine ⟨fun h => ?_, fun h => by rw [h]⟩
 cases a; cases b
 simpa using h
theorem gW {a b : ByteArray} : (a.toList == b.toList) = true ↔ a = b := by rw [beq_iff_eq, toList_inj]
theorem rE {l : List ByteArray} : jZ l = true ↔ l.Nodup := by
 unfold jZ
 rw [decide_eq_true_eq]
 have e : (fun s : ByteArray => s.data.toList) = ByteArray.toList := funext fun s => (toList_data s).symm
 rw [e]
 exact ⟨fun h => (List.pairwise_map.1 h).imp fun hab e => hab (by rw [e]), fun h => List.Pairwise.map _ (fun a b hab hc => hab (toList_inj.1 hc)) h⟩
def bI (cs : List Class) : Nat → ByteArray → List Class
 | 0, _ => []
 | k + 1, name => match cs.find? (dU name) with
   | none => []
   | some c => c :: bI cs k c.super
theorem tL : jg = dU := rfl
theorem rG {cs : List Class} {name : ByteArray} {c : Class} (h : cs.find? (dU name) = some c) : c.name = name ∧ c ∈ cs := by
 refine ⟨?_, List.mem_of_find?_eq_some h⟩
 have := List.find?_some h
 exact gW.1 this
theorem GA (cs : List Class) (name : ByteArray) : (∀ j, oL cs name = some j → cs[j]? = cs.find? (dU name) ∧ (cs.find? (dU name)).isSome = true) ∧ (oL cs name = none → cs.find? (dU name) = none) := by
 obtain ⟨h1, h2⟩ := AL (jg name) cs
 rw [tL] at h1 h2
 unfold oL
 rw [tL]
 refine ⟨fun j hj => ?_, fun h => ?_⟩
 ·split at hj
  ·rename_i hi
   cases hj
   obtain ⟨x, hx, -⟩ := oz (dU name) cs hi
   exact ⟨h2 hi, by rw [← h2 hi, hx]; rfl⟩
  ·cases hj
 ·split at h
  ·cases h
  ·rename_i hi; exact h1 (by omega)
theorem oM (cs : List Class) : ∀ (k m : Nat) (name : ByteArray), ∃ f : Nat → Nat, upX cs k m name = (List.range (bI cs k name).length).map (fun i => (m + i, f i)) ∧ ∀ i, i < (bI cs k name).length → cs[f i]? = (bI cs k name)[i]?
 | 0, m, name => ⟨fun _ => 0, rfl, fun i h => by simp [bI] at h⟩
 | k + 1, m, name => by
   obtain ⟨h1, h2⟩ := GA cs name
   unfold upX
   cases hj : oL cs name with
   | none =>
     have := h2 hj
     exact ⟨fun _ => 0, by simp [bI, this], fun i h => by simp [bI, this] at h⟩
   | some j =>
     obtain ⟨h3, h4⟩ := h1 j hj
     obtain ⟨c, hc⟩ := Option.isSome_iff_exists.1 h4
     rw [hc] at h3
     have hs : mg cs j = c.super := by simp [mg, h3]
     obtain ⟨f, h5, h6⟩ := oM cs k (m + 1) c.super
     refine ⟨fun i => if i = 0 then j else f (i - 1), ?_, fun i hi => ?_⟩
     ·dsimp only
      rw [hs, h5]
      simp only [bI, hc, List.length_cons, List.range_succ_eq_map, List.map_cons, List.map_map]
      congr 1
      refine List.map_congr_left fun i _ => ?_
      simp [Nat.add_assoc, Nat.add_comm 1 i]
     ·simp only [bI, hc, List.length_cons] at hi ⊢
      cases i with
      | zero => simpa using h3
      | succ i => simpa using h6 i (by omega)
theorem iM (cs : List Class) : ∀ (k : Nat) (name : ByteArray), gV cs k name = (bI cs k name).map (·.name)
 | 0, _ => rfl
 | k + 1, name => by
   unfold gV bI
   cases h : cs.find? (dU name) with
   | none => rfl
   | some c => simp [iM cs k c.super, (rG h).1]
theorem iw (cs : List Class) : ∀ (k : Nat) (name : ByteArray), ∀ d ∈ bI cs k name, d ∈ cs ∧ cs.find? (dU d.name) = some d
 | 0, _, d, hd => by simp [bI] at hd
 | k + 1, name, d, hd => by
   unfold bI at hd
   cases h : cs.find? (dU name) with
   | none => rw [h] at hd; simp at hd
   | some c =>
     rw [h] at hd
     rcases List.mem_cons.1 hd with rfl | hd
     ·obtain ⟨h1, h2⟩ := rG h
      exact ⟨h2, by rw [h1]; exact h⟩
     ·exact iw cs k c.super d hd
theorem yc (cs : List Class) : ∀ (k a : Nat) (name : ByteArray), (bI cs k name).length < k → bI cs (k + a) name = bI cs k name
 | 0, a, name, h => by omega
 | k + 1, a, name, h => by
   rw [Nat.add_right_comm]
   unfold bI at h ⊢
   cases hf : cs.find? (dU name) with
   | none => rfl
   | some c =>
     rw [hf] at h
     simp only [List.length_cons] at h
     simp only
     rw [yc cs k a c.super (by omega)]
theorem xH (cs : List Class) : ∀ (k i : Nat) (name : ByteArray) (d : Class), (bI cs k name)[i]? = some d → (bI cs k name).drop i = bI cs (k - i) d.name
 | 0, i, name, d, h => by simp [bI] at h
 | k + 1, 0, name, d, h => by
   rw [List.drop_zero, Nat.sub_zero]
   unfold bI at h ⊢
   cases hf : cs.find? (dU name) with
   | none => rw [hf] at h; simp at h
   | some c =>
     rw [hf] at h
     simp at h; subst h
     rw [(rG hf).1, hf]
 | k + 1, i + 1, name, d, h => by
   cases hf : cs.find? (dU name) with
   | none => simp [bI, hf] at h
   | some c =>
     have e : bI cs (k + 1) name = c :: bI cs k c.super := by
      conv => lhs; unfold bI
      rw [hf]
     rw [e] at h ⊢
     rw [List.getElem?_cons_succ] at h
     rw [List.drop_succ_cons, Nat.add_sub_add_right]
     exact xH cs k i c.super d h
theorem wD {cs : List Class} {d : Class} (h : cs.find? (dU d.name) = some d) : eU cs d.name = d := by unfold eU; rw [h]; rfl
theorem EJ (x y : Method) : uY x y = gJ x y := rfl
theorem alike_refl (x : Method) : gJ x x = true := by simp [gJ]
theorem JZ {x y : Method} : gJ x y = true ↔ x.type.toList = y.type.toList ∧ typesOf x.params = typesOf y.params := by simp [gJ]
theorem FD {x y z : Method} (h : gJ x y = true) (k : gJ y z = true) : gJ x z = true := by
 rw [JZ] at *; exact ⟨h.1.trans k.1, h.2.trans k.2⟩
theorem Pz {cs : List Class} {c : Class} (k m : Nat) (name : ByteArray) : (upX cs k m name).all (nu cs c) = true ↔ ∀ i d, (bI cs k name)[i]? = some d → xu cs c (m + i) d = true := by
 obtain ⟨f, h1, h2⟩ := oM cs k m name
 rw [h1, List.all_eq_true]
 constructor
 ·intro h i d hd
  have hi := (List.getElem?_eq_some_iff.1 hd).1
  have := h (m + i, f i) (List.mem_map.2 ⟨i, List.mem_range.2 hi, rfl⟩)
  rwa [mE ((h2 i hi).trans hd)] at this
 ·intro h x hx
  obtain ⟨i, hi, rfl⟩ := List.mem_map.1 hx
  have hi := List.mem_range.1 hi
  have hd := List.getElem?_eq_getElem hi
  rw [mE ((h2 i hi).trans hd)]
  exact h i _ hd
theorem Av (cs : List Class) (k m : Nat) (name : ByteArray) : dG cs (upX cs k m name) = (bI cs k name).flatMap fun d => dV d.fields := by
 obtain ⟨f, h1, h2⟩ := oM cs k m name
 rw [h1]
 unfold dG
 have : ∀ (l : List Class), (∀ i, i < l.length → cs[f i]? = l[i]?) → ((List.range l.length).map fun i => (m + i, f i)).flatMap (lG cs) = l.flatMap fun d => dV d.fields := by
  intro l h
  have e : (List.range l.length).map (fun i => lG cs (m + i, f i)) = l.map fun d => dV d.fields := by
   refine List.ext_getElem? fun i => ?_
   by_cases hi : i < l.length
   ·simp only [List.getElem?_map, List.getElem?_range hi, Option.map_some]
    rw [List.getElem?_eq_getElem hi]
    simp [lG, h i hi, List.getElem?_eq_getElem hi]
   ·rw [List.getElem?_eq_none CQ, List.getElem?_eq_none CQ]
  rw [List.flatMap_def, List.map_map, List.flatMap_def]
  exact congrArg List.flatten e
 exact this _ h2
theorem Bt (cs : List Class) (k m : Nat) (name : ByteArray) : jl cs (upX cs k m name) = (bI cs k name).map (·.name) := by
 obtain ⟨f, h1, h2⟩ := oM cs k m name
 rw [h1]
 unfold jl
 have : ∀ (l : List Class), (∀ i, i < l.length → cs[f i]? = l[i]?) → ((List.range l.length).map fun i => (m + i, f i)).flatMap (nameAt cs) = l.map (·.name) := by
  intro l h
  have e : (List.range l.length).map (fun i => nameAt cs (m + i, f i)) = l.map fun d => [d.name] := by
   refine List.ext_getElem? fun i => ?_
   by_cases hi : i < l.length
   ·simp only [List.getElem?_map, List.getElem?_range hi, Option.map_some]
    rw [List.getElem?_eq_getElem hi]
    simp [nameAt, h i hi, List.getElem?_eq_getElem hi]
   ·rw [List.getElem?_eq_none CQ, List.getElem?_eq_none CQ]
  rw [List.flatMap_def, List.map_map]
  have e2 := congrArg List.flatten e
  refine e2.trans ?_
  clear e e2 h
  induction l with
  | nil => rfl
  | cons x l ih => simp [ih]
 exact this _ h2
theorem CO (l : List Slot) : nW l = false ↔ (dV l).Nodup := by
 unfold nW dV
 rw [List.any_eq_false, List.Nodup, List.pairwise_map, List.pairwise_iff_getElem]
 constructor
 ·intro h i j hi hj hij e
  have h1 := h j (List.mem_range.2 hj)
  refine h1 (List.any_eq_true.2 ⟨i, List.mem_range.2 hij, ?_⟩)
  simp [H7, List.getElem?_eq_getElem hi, List.getElem?_eq_getElem hj, e]
 ·intro h j hj hc
  have hj := List.mem_range.1 hj
  obtain ⟨i, hi, he⟩ := List.any_eq_true.1 hc
  have hij := List.mem_range.1 hi
  have hil : i < l.length := by omega
  have hne := h i j hil hj hij
  simp only [H7, List.getElem?_eq_getElem hil, List.getElem?_eq_getElem hj] at he
  exact hne (gW.1 he).symm
theorem zA {α : Type} (l : List α) (g : α → ByteArray) : (∀ i x, l[i]? = some x → ((l.take i).any fun o => (g o).toList == (g x).toList) = false) ↔ (l.map g).Nodup := by
 rw [List.Nodup, List.pairwise_map, List.pairwise_iff_getElem]
 constructor
 ·intro h i j hi hj hij e
  have h1 := h j l[j] (List.getElem?_eq_getElem hj)
  rw [List.any_eq_false] at h1
  refine h1 l[i] ?_ (gW.2 e)
  refine List.mem_of_getElem? (i := i) ?_
  rw [List.getElem?_take, if_pos hij]
  exact List.getElem?_eq_getElem hi
 ·intro h j x hx
  rw [List.any_eq_false]
  intro o ho hc
  obtain ⟨i, hi⟩ := List.getElem?_of_mem ho
  rw [List.getElem?_take] at hi
  split at hi
  ·rename_i hij
   have hj := (List.getElem?_eq_some_iff.1 hx).1
   have hil := (List.getElem?_eq_some_iff.1 hi).1
   have e1 : l[i] = o := (List.getElem?_eq_some_iff.1 hi).2
   have e2 : l[j] = x := (List.getElem?_eq_some_iff.1 hx).2
   have := h i j hil hj hij
   rw [e1, e2] at this
   exact this (gW.1 hc)
  ·cases hi
def ow (name : ByteArray) : List Class → Option Method
 | [] => none
 | d :: l => match d.methods.find? (eO name) with | some x => some x | none => ow name l
theorem pU {cs : List Class} (name : ByteArray) : ∀ l : List Class, (∀ d ∈ l, cs.find? (dU d.name) = some d) → (gM cs name (l.map (·.name))).map (·.1) = ow name l
 | [], _ => rfl
 | d :: l, h => by
   simp only [List.map_cons, gM, ow]
   rw [wD (h d (by simp))]
   cases d.methods.find? (eO name) with
   | some x => rfl
   | none => exact pU name l fun d hd => h d (List.mem_cons_of_mem _ hd)
structure Same0 (cs : List Class) : Prop where
 names : (cs.map (·.name)).Nodup
 sup : ∀ c ∈ cs, c.super.toList = [] ∨ (cs.find? (dU c.super)).isSome = true
 len : ∀ c ∈ cs, (bI cs (cs.length + 1) c.name).length ≤ cs.length
 fields : ∀ c ∈ cs, ((bI cs (cs.length + 1) c.name).flatMap fun d => dV d.fields).Nodup
 own : ∀ c ∈ cs, (c.methods.map (·.name)).Nodup
 params : ∀ c ∈ cs, ∀ m ∈ c.methods, (dV m.params).Nodup
def SV (cs : List Class) : Prop := ∀ c ∈ cs, ∀ m ∈ c.methods, ∀ o, ow m.name ((bI cs (cs.length + 1) c.name).drop 1) = some o → gJ m o = true
def QB (cs : List Class) : Prop := ∀ c ∈ cs, ∀ m ∈ c.methods, ∀ (i : Nat) d, (bI cs (cs.length + 1) c.name)[i]? = some d → jS m d.methods = true
theorem BX {cs : List Class} (h : (cs.map (·.name)).Nodup) {c : Class} (hc : c ∈ cs) : cs.find? (dU c.name) = some c := by
 obtain ⟨d, hd⟩ := Ch hc
 rw [hd]
 obtain ⟨h1, h2⟩ := rG hd
 obtain ⟨i, hi⟩ := List.getElem?_of_mem hc
 obtain ⟨j, hj⟩ := List.getElem?_of_mem h2
 have hi' := (List.getElem?_eq_some_iff.1 hi)
 have hj' := (List.getElem?_eq_some_iff.1 hj)
 rw [List.Nodup, List.pairwise_map, List.pairwise_iff_getElem] at h
 rcases Nat.lt_trichotomy i j with hij | hij | hij
 ·exact absurd (by rw [hi'.2, hj'.2]; exact h1.symm) (h i j hi'.1 hj'.1 hij)
 ·subst hij; rw [hi] at hj; exact hj.symm
 ·exact absurd (by rw [hi'.2, hj'.2]; exact h1) (h j i hj'.1 hi'.1 hij)
theorem Dk {name : ByteArray} : ∀ {l : List Class} {o : Method}, ow name l = some o → ∃ (i : Nat) (d : Class), l[i]? = some d ∧ d.methods.find? (eO name) = some o ∧ ∀ j e, j < i → l[j]? = some e → e.methods.find? (eO name) = none
 | [], o, h => by cases h
 | d :: l, o, h => by
   simp only [ow] at h
   cases hf : d.methods.find? (eO name) with
   | some x => rw [hf] at h; cases h; exact ⟨0, d, rfl, hf, fun j e hj => by omega⟩
   | none =>
     rw [hf] at h
     obtain ⟨i, e, h1, h2, h3⟩ := Dk h
     refine ⟨i + 1, e, by simpa using h1, h2, fun j f hj he => ?_⟩
     cases j with
     | zero => simp at he; subst he; exact hf
     | succ j => exact h3 j f (by omega) FL
theorem C9 {name : ByteArray} : ∀ {l : List Class} {i : Nat} {d : Class} {o : Method}, l[i]? = some d → d.methods.find? (eO name) = some o → ∃ o', ow name l = some o'
 | [], i, d, o, h, _ => by simp at h
 | e :: l, 0, d, o, h, k => by simp at h; subst h; exact ⟨o, by simp [ow, k]⟩
 | e :: l, i + 1, d, o, h, k => by
   simp only [ow]
   cases e.methods.find? (eO name) with
   | some x => exact ⟨x, rfl⟩
   | none => exact C9 (by simpa using h) k
theorem I5 {l : List Method} {name : ByteArray} {o : Method} (h : l.find? (eO name) = some o) : o ∈ l ∧ o.name = name := ⟨List.mem_of_find?_eq_some h, by have := List.find?_some h; exact gW.1 this⟩
theorem KA {l : List Method} (h : (l.map (·.name)).Nodup) {m : Method} (hm : m ∈ l) : l.find? (eO m.name) = some m := by
 cases hf : l.find? (eO m.name) with
 | none =>
   have := List.find?_eq_none.1 hf m hm
   simp [eO] at this
 | some o =>
   obtain ⟨h1, h2⟩ := I5 hf
   obtain ⟨i, hi⟩ := List.getElem?_of_mem hm
   obtain ⟨j, hj⟩ := List.getElem?_of_mem h1
   have hi' := (List.getElem?_eq_some_iff.1 hi)
   have hj' := (List.getElem?_eq_some_iff.1 hj)
   rw [List.Nodup, List.pairwise_map, List.pairwise_iff_getElem] at h
   rcases Nat.lt_trichotomy i j with hij | hij | hij
   ·exact absurd (by rw [hi'.2, hj'.2]; exact h2.symm) (h i j hi'.1 hj'.1 hij)
   ·subst hij; rw [hi] at hj; exact hj.symm
   ·exact absurd (by rw [hi'.2, hj'.2]; exact h2) (h j i hj'.1 hi'.1 hij)
theorem vB {m : Method} {l : List Method} : jS m l = true ↔ ∀ o, l.find? (eO m.name) = some o → gJ m o = true := by
 unfold jS
 have e : iJ m.name = eO m.name := rfl
 rw [e]
 cases l.find? (eO m.name) with
 | none => simp
 | some o => simp
theorem Ae {cs : List Class} (h0 : Same0 cs) : SV cs ↔ QB cs := by
 constructor
 ·intro hR
  -- by how far above it stands
  have key : ∀ n, ∀ c ∈ cs, ∀ m ∈ c.methods, ∀ (i : Nat) d, i ≤ n → (bI cs (cs.length + 1) c.name)[i]? = some d → jS m d.methods = true := by
   intro n
   induction n with
   | zero =>
     intro c hc m hm i d hi hd
     obtain rfl : i = 0 := by omega
     have hf := BX h0.names hc
     have : d = c := by
      have h1 : bI cs (cs.length + 1) c.name = c :: bI cs cs.length c.super := by
       conv => lhs; unfold bI
       rw [hf]
      rw [h1] at hd
      simpa using hd.symm
     subst this
     rw [vB]
     intro o ho
     rw [KA (h0.own d hc) hm] at ho
     cases ho
     exact alike_refl m
   | succ n ih =>
     intro c hc m hm i d hi hd
     rcases Nat.lt_or_ge i (n + 1) with h1 | h1
     ·exact ih c hc m hm i d (by omega) hd
     ·obtain rfl : i = n + 1 := by omega
      rw [vB]
      intro o ho
      have hd1 : ((bI cs (cs.length + 1) c.name).drop 1)[n]? = some d := by rw [List.getElem?_drop, Nat.add_comm 1 n]; exact hd
      obtain ⟨o', ho'⟩ := C9 hd1 ho
      have hlike := hR c hc m hm o' ho'
      obtain ⟨q, e, he, hf, hbefore⟩ := Dk ho'
      rw [List.getElem?_drop] at he
      rcases Nat.lt_trichotomy q n with hq | hq | hq
      ·-- the next one stands below: from there on
       obtain ⟨hem, hef⟩ := iw cs _ _ e (List.mem_of_getElem? he)
       obtain ⟨ho1, ho2⟩ := I5 hf
       have hdr := xH cs (cs.length + 1) (1 + q) c.name e he
       have hlen := h0.len c hc
       have hmore : bI cs (cs.length + 1) e.name = (bI cs (cs.length + 1) c.name).drop (1 + q) := by
        rw [hdr]
        have hl : (bI cs (cs.length + 1 - (1 + q)) e.name).length < cs.length + 1 - (1 + q) := by
         rw [← hdr, List.length_drop]
         have := (List.getElem?_eq_some_iff.1 he).1
         omega
        have := yc cs (cs.length + 1 - (1 + q)) (1 + q) e.name hl
        rw [show cs.length + 1 - (1 + q) + (1 + q) = cs.length + 1 by have := (List.getElem?_eq_some_iff.1 he).1; omega] at this
        exact this
       have hd2 : (bI cs (cs.length + 1) e.name)[n + 1 - (1 + q)]? = some d := by
        rw [hmore, List.getElem?_drop]
        rw [show 1 + q + (n + 1 - (1 + q)) = n + 1 by omega]
        exact hd
       have := ih e hem o' ho1 (n + 1 - (1 + q)) d (by omega) hd2
       rw [vB, ho2] at this
       exact FD hlike (this o ho)
      ·subst hq
       rw [Nat.add_comm 1 q] at he
       rw [hd] at he
       cases he
       rw [hf] at ho
       cases ho
       exact hlike
      ·have := hbefore n d hq hd1
       rw [this] at ho
       cases ho
  exact fun c hc m hm i d hd => key i c hc m hm i d (Nat.le_refl _) hd
 ·intro hP c hc m hm o ho
  obtain ⟨i, d, h1, h2, -⟩ := Dk ho
  rw [List.getElem?_drop] at h1
  have := hP c hc m hm _ d h1
  rw [vB] at this
  exact this o h2
theorem Kq {cs : List Class} : mV cs = true ↔ (cs.map (·.name)).Nodup ∧ ∀ c ∈ cs, c.super.toList = [] ∨ (cs.find? (dU c.super)).isSome = true := by
 rw [← zA]
 unfold mV
 rw [List.all_eq_true]
 have row : ∀ i c, cs[i]? = some c → (mO cs i = true ↔ ((cs.take i).any fun o => o.name.toList == c.name.toList) = false ∧ (c.super.toList = [] ∨ (cs.find? (dU c.super)).isSome = true)) := by
  intro i c hc
  have e : ((cs.take i).any fun d => c.name.toList == d.name.toList) = ((cs.take i).any fun o => o.name.toList == c.name.toList) := by
   congr 1; funext d; exact BEq.comm
  unfold mO
  rw [hc]
  dsimp only
  rw [e]
  simp only [Bool.and_eq_true, Bool.not_eq_true', Bool.or_eq_true, beq_iff_eq]
 constructor
 ·intro h
  refine ⟨fun i c hc => ((row i c hc).1 (h i (List.mem_range.2 (List.getElem?_eq_some_iff.1 hc).1))).1, fun c hm => ?_⟩
  obtain ⟨i, hc⟩ := List.getElem?_of_mem hm
  exact ((row i c hc).1 (h i (List.mem_range.2 (List.getElem?_eq_some_iff.1 hc).1))).2
 ·rintro ⟨h1, h2⟩ i hi
  have hc := List.getElem?_eq_getElem (List.mem_range.1 hi)
  exact (row i _ hc).2 ⟨h1 i _ hc, h2 _ (List.mem_of_getElem? hc)⟩
theorem Dx {cs : List Class} (l : List Class) (h : ∀ d ∈ l, cs.find? (dU d.name) = some d) : (dV (dM cs (l.map (·.name)))).Nodup ↔ (l.flatMap fun d => dV d.fields).Nodup := by
 have e : dV (dM cs (l.map (·.name))) = l.reverse.flatMap fun d => dV d.fields := by
  unfold dM dV
  rw [← List.map_reverse, List.map_flatMap, List.flatMap_map]
  have : ∀ l' : List Class, (∀ d ∈ l', d ∈ l) → (l'.flatMap fun d => ((eU cs d.name).fields.map (·.name))) = l'.flatMap fun d => d.fields.map (·.name) := by
   intro l'
   induction l' with
   | nil => intro _; rfl
   | cons d l' ih =>
     intro hm
     rw [List.flatMap_cons, List.flatMap_cons, ih fun x hx => hm x (List.mem_cons_of_mem _ hx), wD (h d (hm d (by simp)))]
  exact this _ fun d hd => List.mem_reverse.1 hd
 rw [e]
 exact (List.Perm.flatMap_right _ (List.reverse_perm l)).nodup_iff
theorem Fu {cs : List Class} (k : Nat) (name : ByteArray) (j : Nat) (l : List Method) : iW cs ((gV cs k name).drop j) l = true ↔ (l.map (·.name)).Nodup ∧ ∀ m ∈ l, (dV m.params).Nodup ∧ ∀ o, ow m.name ((bI cs k name).drop j) = some o → gJ m o = true := by
 rw [← zA, iM, ← List.map_drop]
 have hmem : ∀ d ∈ (bI cs k name).drop j, cs.find? (dU d.name) = some d := fun d hd => (iw cs k name d (List.mem_of_mem_drop hd)).2
 generalize (bI cs k name).drop j = ab at hmem ⊢
 unfold iW
 rw [List.all_eq_true]
 have row : ∀ i x, l[i]? = some x → (lD cs (ab.map (·.name)) l i = true ↔ ((l.take i).any fun o => o.name.toList == x.name.toList) = false ∧ (dV x.params).Nodup ∧ ∀ o, ow x.name ab = some o → gJ x o = true) := by
  intro i x hx
  have hn := pU x.name ab hmem
  unfold lD
  rw [hx]
  dsimp only
  rw [← CO]
  cases hm : gM cs x.name (ab.map (·.name)) with
  | none =>
    rw [hm] at hn
    rw [← hn]
    simp
  | some q =>
    rw [hm] at hn
    rw [← hn]
    obtain ⟨o, n⟩ := q
    simp only [Option.map_some, Bool.and_eq_true, Bool.not_eq_true', Bool.or_eq_false_iff, Option.some.injEq, forall_eq', Bool.not_eq_false', EJ]
    constructor
    ·rintro ⟨a, b, c⟩; exact ⟨a, c, b⟩
    ·rintro ⟨a, b, c⟩; exact ⟨a, c, b⟩
 constructor
 ·intro h
  refine ⟨fun i x hx => ((row i x hx).1 (h i (List.mem_range.2 (List.getElem?_eq_some_iff.1 hx).1))).1, fun x hm => ?_⟩
  obtain ⟨i, hx⟩ := List.getElem?_of_mem hm
  exact ((row i x hx).1 (h i (List.mem_range.2 (List.getElem?_eq_some_iff.1 hx).1))).2
 ·rintro ⟨h1, h2⟩ i hi
  have hx := List.getElem?_eq_getElem (List.mem_range.1 hi)
  exact (row i _ hx).2 ⟨h1 i _ hx, h2 _ (List.mem_of_getElem? hx)⟩
theorem Qi {cs : List Class} : (mV cs = true ∧ (List.range cs.length).all (jE cs) = true) ↔ Same0 cs ∧ SV cs := by
 rw [Kq, List.all_eq_true]
 have row : ∀ i c, cs[i]? = some c → (jE cs i = true ↔ (bI cs (cs.length + 1) c.name).length ≤ cs.length ∧ ((bI cs (cs.length + 1) c.name).flatMap fun d => dV d.fields).Nodup ∧ (c.methods.map (·.name)).Nodup ∧ ∀ m ∈ c.methods, (dV m.params).Nodup ∧ ∀ o, ow m.name ((bI cs (cs.length + 1) c.name).drop 1) = some o → gJ m o = true) := by
  intro i c hc
  unfold jE
  rw [hc]
  dsimp only
  rw [Bool.and_eq_true, Fu, Bool.not_eq_true', Bool.or_eq_false_iff, CO, iM, List.length_map, decide_eq_false_iff_not, Nat.not_lt,
   Dx _ (fun d hd => (iw cs _ _ d hd).2), and_assoc]
 constructor
 ·rintro ⟨⟨h1, h2⟩, h3⟩
  have R := fun c (hm : c ∈ cs) => (List.getElem?_of_mem hm).elim fun i hc => (row i c hc).1 (h3 i (List.mem_range.2 (List.getElem?_eq_some_iff.1 hc).1))
  exact ⟨⟨h1, h2, fun c hc => (R c hc).1, fun c hc => (R c hc).2.1, fun c hc => (R c hc).2.2.1, fun c hc m hm => ((R c hc).2.2.2 m hm).1⟩, fun c hc m hm => ((R c hc).2.2.2 m hm).2⟩
 ·rintro ⟨h, hR⟩
  refine ⟨⟨h.names, h.sup⟩, fun i hi => ?_⟩
  have hx := List.getElem?_eq_getElem (List.mem_range.1 hi)
  have hm := List.mem_of_getElem? hx
  exact (row i _ hx).2 ⟨h.len _ hm, h.fields _ hm, h.own _ hm, fun m hmm => ⟨h.params _ hm m hmm, hR _ hm m hmm⟩⟩
theorem Fg {cs : List Class} {c : Class} (h : cs.find? (dU c.name) = some c) (k : Nat) : bI cs (k + 1) c.name = c :: bI cs k c.super := by
 conv => lhs; unfold bI
 rw [h]
theorem J2 {cs : List Class} {n : ByteArray} : cs.any (jg n) = true ↔ (cs.find? (dU n)).isSome = true := by
 rw [tL, List.find?_isSome, List.any_eq_true]
theorem yR {cs : List Class} {c d : Class} {m : Nat} : xu cs c m d = true ↔ m ≠ cs.length ∧ (d.super.toList = [] ∨ (cs.find? (dU d.super)).isSome = true) ∧ ∀ y ∈ c.methods, jS y d.methods = true := by
 unfold xu
 rw [Bool.and_eq_true, Bool.and_eq_true, Bool.or_eq_true, J2, List.all_eq_true, List.isEmpty_iff, Bool.not_eq_true', decide_eq_false_iff_not, and_assoc]
theorem Fb {cs : List Class} : (jZ (cs.map (·.name)) = true ∧ ∀ c ∈ cs, dB cs c = true) ↔ Same0 cs ∧ QB cs := by
 have row : ∀ c, dB cs c = true ↔ (∀ i d, (bI cs (cs.length + 1) c.name)[i]? = some d → xu cs c (0 + i) d = true) ∧ (∀ m ∈ c.methods, (dV m.params).Nodup) ∧ ((bI cs (cs.length + 1) c.name).flatMap fun d => dV d.fields).Nodup ∧ (c.methods.map (·.name)).Nodup := by
  intro c
  unfold dB
  rw [Bool.and_eq_true, Bool.and_eq_true, Bool.and_eq_true, Pz, List.all_eq_true, Av, rE, rE, and_assoc, and_assoc]
  simp only [rE]
 rw [rE]
 constructor
 ·rintro ⟨h1, h2⟩
  have R := fun c hc => (row c).1 (h2 c hc)
  refine ⟨⟨h1, fun c hc => ?_, fun c hc => ?_, fun c hc => (R c hc).2.2.1, fun c hc => (R c hc).2.2.2, fun c hc => (R c hc).2.1⟩, fun c hc m hm i d hd => ?_⟩
  ·have hf := BX h1 hc
   have : (bI cs (cs.length + 1) c.name)[0]? = some c := by rw [Fg hf]; rfl
   exact (yR.1 ((R c hc).1 0 c this)).2.1
  ·rcases Nat.lt_or_ge cs.length (bI cs (cs.length + 1) c.name).length with hl | hl
   ·have := (yR.1 ((R c hc).1 cs.length _ (List.getElem?_eq_getElem hl))).1
    rw [Nat.zero_add] at this
    exact absurd rfl this
   ·exact hl
  ·exact (yR.1 ((R c hc).1 i d hd)).2.2 m hm
 ·rintro ⟨h, hP⟩
  refine ⟨h.names, fun c hc => (row c).2 ⟨fun i d hd => ?_, h.params c hc, h.fields c hc, h.own c hc⟩⟩
  refine yR.2 ⟨?_, h.sup d (iw cs _ _ d (List.mem_of_getElem? hd)).1, fun y hy => hP c hc y hy i d hd⟩
  have := (List.getElem?_eq_some_iff.1 hd).1
  have := h.len c hc
  omega
theorem Q5 (e : Int) (cs : List Class) : cu e cs = pY e cs := by
 have key : (jZ (cs.map (·.name)) = true ∧ ∀ c ∈ cs, dB cs c = true) ↔ (mV cs = true ∧ (List.range cs.length).all (jE cs) = true) := by
  rw [Qi, Fb]
  exact ⟨fun h => ⟨h.1, (Ae h.1).2 h.2⟩, fun h => ⟨h.1, (Ae h.1).1 h.2⟩⟩
 have ha : (cs.any (fun c => !dB cs c) = true) ↔ ¬ ∀ c ∈ cs, dB cs c = true := by
  rw [← List.all_eq_true, List.any_eq_not_all_not]
  simp
 unfold cu pY
 split
 ·split
  ·rfl
  ·by_cases h1 : jZ (cs.map (·.name)) = true
   ·rw [if_neg (by rw [h1]; decide)]
    by_cases h2 : ∀ c ∈ cs, dB cs c = true
    ·rw [if_neg (fun h => ha.1 h h2)]
     obtain ⟨k1, k2⟩ := key.1 ⟨h1, h2⟩
     rw [if_neg (by rw [k1]; decide), if_pos k2]
    ·rw [if_pos (ha.2 h2)]
     split
     ·rfl
     ·rename_i k1
      rw [if_neg (fun k2 => h2 (key.2 ⟨by simpa using k1, k2⟩).2)]
   ·rw [if_pos BR]
    split
    ·rfl
    ·rename_i k1
     rw [if_neg (fun k2 => h1 (key.2 ⟨by simpa using k1, k2⟩).1)]
 ·rfl
theorem Ew (E : Int) (cs : List Class) (n : ByteArray) : lS E cs n = gq E cs n := by
 unfold lS gq
 rw [Bt, iM]
theorem FM {e : Int} {cs : List Class} (h : cu e cs = 0) : Same0 cs := by
 unfold cu at h
 split at h
 ·split at h
  ·exact absurd h (by decide)
  ·split at h
   ·exact absurd h (by decide)
   ·split at h
    ·exact absurd h (by decide)
    ·rename_i h1 h2
     refine (Fb.1 ⟨by simpa using h1, fun c hc => ?_⟩).1
     cases hk : dB cs c with
     | true => rfl
     | false => exact absurd (List.any_eq_true.2 ⟨c, hc, by rw [hk]; rfl⟩) h2
 ·rename_i h1; exact absurd h h1
end V
end Go.Proofs.YthhpcjoaogmhbaaGreatDoor
end
section
namespace Go.Proofs.YthhpcjoaogmhbaaGreatDoor
namespace V
open Go.RowKit
def ji (p : Program) : Int := bH (bG p)
theorem KX (p : Program) (hS : gN p.classes) (hlen : p.classes.length ≤ 1048576) (m : Mem) : COk Tryz.prog 12 [.agg (dz p)] m (.c (.int .i64 (cu (ji p) p.classes))) :=
 K3 p (ji p) hS (by omega) (fun m => Qe p m) m
theorem J5 (p : Program) (hS : gN p.classes) (hlen : p.classes.length ≤ 1048576) (m : Mem) : COk Tryz.prog 9 [.agg (dz p)] m (.c (.int .i64 (cu (ji p) p.classes))) := by
 rw [Q5]
 exact EI p (ji p) (tN _) hS (by omega) (fun m => FZ p m) m
end V
end Go.Proofs.YthhpcjoaogmhbaaGreatDoor
end
section
namespace Go.Proofs.YthhpcjoaogmhbaaGreatDoor
namespace V
theorem Hg {cs : List Class} {a b : ByteArray} : nY 0 cs a b = true ↔ ∃ (i : Nat) (d : Class), (bI cs (cs.length + 1) a)[i]? = some d ∧ d.name = b := by
 unfold nY
 rw [Ew]
 unfold gq
 rw [if_pos rfl, iM, List.any_map, List.any_eq_true]
 constructor
 ·rintro ⟨d, hd, h⟩
  obtain ⟨i, hi⟩ := List.getElem?_of_mem hd
  exact ⟨i, d, hi, (gW.1 h).symm⟩
 ·rintro ⟨i, d, hi, rfl⟩
  exact ⟨d, List.mem_of_getElem? hi, gW.2 rfl⟩
end V
end Go.Proofs.YthhpcjoaogmhbaaGreatDoor
end
section
namespace Go.Proofs.YthhpcjoaogmhbaaGreatDoor
namespace V
open Go.RowKit
abbrev bD : ByteArray := ⟨#[105, 110, 116]⟩
abbrev iX : ByteArray := ⟨#[105, 110, 116, 91, 93]⟩
abbrev jR : ByteArray := ⟨#[110, 117, 108, 108]⟩
def oQ (t : ByteArray) (d : Class) : Bool := d.name.toList == t.toList
def dK (cs : List Class) (t : ByteArray) : Bool := t.toList == bD.toList || (t.toList == iX.toList || cs.any (oQ t))
def kr (E : Int) (cs : List Class) (a b : ByteArray) : Bool :=
 dK cs b && (a.toList == b.toList || (if (a.toList == jR.toList) = true then !(b.toList == bD.toList) else cs.any (oQ a) && nY E cs a b))
def Dq (E : Int) (cs : List Class) (a b : ByteArray) : Bool :=
 dK cs b && (a.toList == b.toList || (a.toList == jR.toList && !(b.toList == bD.toList)) || (cs.any (oQ a) && cs.any (oQ b) && (gq E cs a).any (fun x => x.toList == b.toList)))
theorem PV (d : Class) (t : ByteArray) (m : Mem) : COk Tryz.prog 73 [.agg (ay d), .rptr [.str t]] m (.c (.bool (oQ t d))) := by
 refine (cB ah Tryz.func73 (by kernel_rfl) rfl rfl (by rfl) (by rfl) (by rfl) (fun R hkeep => ?_) m)
 repeat (first | refine W.q ?_ | refine W.g ?_ sI)
 refine W.rt ?_;simp only [Tryz.f73, bE, aD, toT, fin, exb, simprocAttr, ay] <;> rfl
theorem uo (cs : List Class) (r : List C) (t : ByteArray) (hlen : cs.length ≤ 1000000000) (m : Mem) : COk Tryz.prog 36 [.rptr (.sl (cs.map ay) :: r), .c (.str t)] m (.c (.bool (cs.any (oQ t)))) := by
 refine (cB ah Tryz.func36 (by kernel_rfl) rfl rfl (by rfl) (by rfl) (by rfl) (fun R hkeep => ?_) m)
 refine W.go ?_
 refine W.ak ah 0 (by decide) ?_
 refine xs0 6 ?_
 refine bg rfl rfl rfl rfl rfl (by simp) (aB aV (aB (wR (oD rfl rfl)) bf)) (by rfl) (by rfl) (qH cs 73 [[.str t]] (oQ t) (by omega) (fun x _ m => PV x t m)) ?_
 refine xe0 ?_
 refine W.rt ?_;simp only [Tryz.f36, bE, aD, toT, fin, exb, simprocAttr]
theorem qN (cs : List Class) (r : List C) (t : ByteArray) (hlen : cs.length ≤ 1000000000) (m : Mem) : COk Tryz.prog 24 [.rptr (.sl (cs.map ay) :: r), .c (.str t)] m (.c (.bool (dK cs t))) := by
 have hk := uo cs r t hlen
 unfold dK
 refine (cB ah Tryz.func24 (by kernel_rfl) rfl rfl (by rfl) (by rfl) (by rfl) (fun R hkeep => ?_) m)
 refine W.go ?_
 cases h1 : (t.toList == bD.toList) with
 | true =>
   refine W.ak ah 0 (by decide) ?_
   refine aA (by simp only [exb, simprocAttr, h1]; rfl) ?_
   refine W.rt ?_;simp only [Tryz.f24, bE, aD, toT, fin, exb, simprocAttr, h1] <;> rfl
 | false =>
   cases h2 : (t.toList == iX.toList) with
   | true =>
     refine W.ak ah 0 (by decide) ?_
     refine aA Ob ?_
     refine W.rt ?_;simp only [Tryz.f24, bE, aD, toT, fin, exb, simprocAttr, h1, h2] <;> rfl
   | false =>
     refine W.ak ah 0 (by decide) ?_
     refine aj 9 Ob ?_
     refine au rfl rfl rfl rfl rfl (by simp) cw2 (hk _) ?_
     refine aA Ob ?_
     refine W.rt ?_;simp only [Tryz.f24, bE, aD, toT, fin, exb, simprocAttr] <;> rfl
theorem y7 (p : Program) (E : Int) (r : List C) (a b : ByteArray) (hlen : p.classes.length ≤ 1000000000) (hchk : ∀ m, COk Tryz.prog 12 [.agg (dz p)] m (.c (.int .i64 E))) (m : Mem) :
 COk Tryz.prog 41 [.rptr (.sl (p.classes.map ay) :: .sl (bJ p.main) :: r), .c (.str a), .c (.str b)] m (.c (.bool (kr E p.classes a b))) := by
 have hkn := qN p.classes (.sl (bJ p.main) :: r) b hlen
 have hcl := uo p.classes (.sl (bJ p.main) :: r) a hlen
 have hbe := fun m => NC p E a b (by omega) hchk m
 unfold kr
 generalize dK p.classes b = K at hkn
 generalize p.classes.any (oQ a) = L at hcl
 generalize nY E p.classes a b = B at hbe
 refine (cB ah Tryz.func41 (by kernel_rfl) rfl rfl (by rfl) (by rfl) (by rfl) (fun R hkeep => ?_) m)
 refine W.go ?_
 refine W.ak ah 0 (by decide) ?_
 refine xs0 2 ?_
 refine au rfl rfl rfl rfl rfl (by simp) cw2 (hkn _) ?_
 refine xe0 ?_
 refine W.cond rfl ?_ ?_
 ·intro h
  obtain rfl : K = false := by simpa using h
  refine W.go ?_
  refine W.rt ?_;simp only [Tryz.f41, bE, aD, toT, fin, exb, simprocAttr] <;> rfl
 intro h
 obtain rfl : K = true := by simpa using h
 refine W.go ?_
 refine W.cond rfl ?_ ?_
 ·intro h
  have h : (a.toList == b.toList) = true := h
  refine W.go ?_
  refine W.rt ?_;simp only [Tryz.f41, bE, aD, toT, fin, exb, simprocAttr, h] <;> rfl
 intro h1
 have h1 : (a.toList == b.toList) = false := h1
 refine W.go ?_
 refine W.cond rfl ?_ ?_
 ·intro h
  have h : (a.toList == jR.toList) = true := h
  refine W.go ?_
  refine W.rt ?_;simp only [Tryz.f41, bE, aD, toT, fin, exb, simprocAttr, h, h1] <;> rfl
 intro h2
 have h2 : (a.toList == jR.toList) = false := h2
 refine W.go ?_
 cases L with
 | false =>
   refine W.ak ah 0 (by decide) ?_
   refine xs0 2 ?_
   refine au rfl rfl rfl rfl rfl (by simp) cw2 (hcl _) ?_
   refine xe0 ?_
   exact W.ret ⟨.inr rfl, by rfl, Sm⟩
 | true =>
   refine W.ak ah 0 (by decide) ?_
   refine xs0 2 ?_
   refine au rfl rfl rfl rfl rfl (by simp) cw2 (hcl _) ?_
   refine aj 7 jA ?_
   refine au rfl rfl rfl rfl rfl (by simp) cw3 (hbe _) ?_
   refine xe0 ?_
   exact W.ret ⟨.inr rfl, by rfl, Sm⟩
def iE {α β : Type} (p : α → β → Bool) : List α → List β → Bool
 | [], [] => true
 | x :: l, y :: r => p x y && iE p l r
 | _, _ => false
theorem sU {α β : Type} {p : α → β → Bool} : ∀ {l : List α} {r : List β}, l.length ≠ r.length → iE p l r = false
 | [], [], h => absurd rfl h
 | [], _ :: _, _ => rfl
 | _ :: _, [], _ => rfl
 | x :: l, y :: r, h => by
   simp only [iE, sU (p := p) (l := l) (r := r) (by simpa using h), Bool.and_false]
theorem oh {α β : Type} {p : α → β → Bool} : ∀ {l l' : List α} {r r' : List β}, l.length = r.length → iE p (l ++ l') (r ++ r') = (iE p l r && iE p l' r')
 | [], l', [], r', _ => by simp [iE]
 | [], _, _ :: _, _, h => by simp at h
 | _ :: _, _, [], _, h => by simp at h
 | x :: l, l', y :: r, r', h => by
   have ih := oh (p := p) (l := l) (l' := l') (r := r) (r' := r') (by simpa using h)
   simp only [List.cons_append, iE, ih, Bool.and_assoc]
theorem xM {α β : Type} {p : α → β → Bool} {l : List α} {r : List β} {k : Nat} {x : α} {y : β} (h : l.length = r.length) (hx : l[k]? = some x) (hy : r[k]? = some y) (ht : iE p (l.take k) (r.take k) = true) : iE p (l.take (k + 1)) (r.take (k + 1)) = p x y := by
 rw [List.take_add_one, List.take_add_one, hx, hy, oh (by simp [h]), ht]
 simp [iE]
theorem CF {α β : Type} {p : α → β → Bool} {l : List α} {r : List β} {k : Nat} (h : l.length = r.length) (ht : iE p (l.take k) (r.take k) = false) : iE p l r = false := by
 have e1 : l = l.take k ++ l.drop k := (List.take_append_drop _ _).symm
 have e2 : r = r.take k ++ r.drop k := (List.take_append_drop _ _).symm
 rw [e1, e2, oh (by simp [h]), ht]; rfl
abbrev tNo : ByteArray := ⟨#[]⟩
def isT (a b : ByteArray) : Bool := a.toList == b.toList
abbrev kN (a b : List ByteArray) : Bool := iE isT a b
abbrev qd (cs : List Class) (a : List ByteArray) (b : List Slot) : Bool := iE (fun t s => kr 0 cs t s.type) a b
def zy (n : ByteArray) (s : Slot) : Bool := s.name.toList == n.toList
def jF (l : List Slot) (n : ByteArray) : Option ByteArray := (l.find? (zy n)).map (·.type)
def hdT (l : List ByteArray) : ByteArray := l.headD tNo
def kE (cs : List Class) (a b : ByteArray) : Bool :=
 (isT a bD && isT b bD) || (!(isT a bD) && !(isT b bD) && ((isT a jR && isT b jR) || kr 0 cs a b || kr 0 cs b a))
def bN (cs : List Class) (inn : ByteArray) (env : List Slot) (k : Int) (nm : ByteArray) (ls : List ByteArray) : Option ByteArray :=
 if k = 2 then some jR
 else if k = 3 then (if isT inn tNo = true then none else some inn)
 else if k = 4 then (match jF env nm with | some t => if isT t tNo = true then none else some t | none => none)
 else if k = 5 then (if cs.any (oQ nm) = true then some nm else none)
 else if k = 6 then (if kN ls [bD] = true then some iX else none)
 else if k = 7 then jF (gT 0 cs (hdT ls)) nm
 else if k = 8 then (if kN ls [iX, bD] = true then some bD else none)
 else if k = 9 then (if kN ls [iX] = true then some bD else none)
 else if k = 10 then (match fM 0 cs (hdT ls) nm with | some (m, _) => if qd cs ls.tail m.params = true then some m.type else none | none => none)
 else if k = 12 then (if kN ls [bD] = true then some bD else none)
 else if k = 13 ∨ k = 14 ∨ k = 15 ∨ k = 16 ∨ k = 17 then (if kN ls [bD, bD] = true then some bD else none)
 else if k = 18 then (if kE cs (hdT ls) (hdT ls.tail) = true then some bD else none)
 else some bD
mutual
def jP (cs : List Class) (inn : ByteArray) (env : List Slot) : Expr → Option ByteArray
 | ⟨k, _, nm, kids⟩ => (eP cs inn env kids).bind (bN cs inn env k nm)
def eP (cs : List Class) (inn : ByteArray) (env : List Slot) : List Expr → Option (List ByteArray)
 | [] => some []
 | x :: l => match jP cs inn env x with
   | some t => (eP cs inn env l).map (t :: ·)
   | none => none
end
def jm (cs : List Class) (inn ret : ByteArray) (env : List Slot) (k : Int) (ty : ByteArray) (ts : List ByteArray) : Bool :=
 if k = 1 then dK cs ty && (ts.isEmpty || kr 0 cs (hdT ts) ty)
 else if k = 2 then kr 0 cs (hdT ts.tail) (hdT ts)
 else if k = 3 ∨ k = 4 ∨ k = 5 then isT (hdT ts) bD
 else if k = 6 then !(isT ret tNo) && kr 0 cs (hdT ts) ret
 else true
mutual
def lM (cs : List Class) (inn ret : ByteArray) (env : List Slot) : Stmt → Bool
 | ⟨k, _, ty, nm, es, th, el⟩ => (match eP cs inn env es with | some ts => jm cs inn ret env k ty ts | none => false) && dH cs inn ret env th && dH cs inn ret env el
def dH (cs : List Class) (inn ret : ByteArray) (env : List Slot) : List Stmt → Bool
 | [] => true
 | x :: l => lM cs inn ret env x && dH cs inn ret (if x.kind = 1 then env ++ [⟨x.type, x.name⟩] else env) l
end
mutual
def Cq : Stmt → List ByteArray
 | ⟨k, _, _, nm, _, th, el⟩ => (if k = 1 then [nm] else []) ++ bA th ++ bA el
def bA : List Stmt → List ByteArray
 | [] => []
 | x :: l => Cq x ++ bA l
end
def tY (seen : List ByteArray) : List ByteArray → Bool
 | [] => true
 | x :: l => !(seen.any fun y => y.toList == x.toList) && tY (seen ++ [x]) l
def eF (cs : List Class) (inn ret : ByteArray) (params : List Slot) (body : List Stmt) : Bool :=
 params.all (fun s => dK cs s.type) && tY (params.map (·.name)) (bA body) && dH cs inn ret params body
def jD (cs : List Class) (c : Class) : Bool :=
 c.fields.all (fun s => dK cs s.type) && c.methods.all fun m => dK cs m.type && eF cs c.name m.type m.params m.body
def iT (p : Program) : Bool := eF p.classes tNo tNo [] p.main && p.classes.all (jD p.classes)
def jJ (p : Program) : Int := if cu (ji p) p.classes = 0 then (if iT p = true then 0 else 70) else cu (ji p) p.classes
end V
end Go.Proofs.YthhpcjoaogmhbaaGreatDoor
end
section
namespace Go.Proofs.YthhpcjoaogmhbaaGreatDoor
namespace V
open Go.RowKit
def dJ : List PanicEntry := [{ v := .iface 67 (.agg #[]), recovered := false }]
def D7 : Tab := { tab with fields := fun t => if t = 67 then some [] else tab.fields t, zero := fun t => if t = 67 then some [] else tab.zero t }
namespace M
theorem ah : D7.Ok Tryz.prog := ⟨V.ah.ty, fun t vs h => by
 by_cases e : t = 67
 ·subst e
  have h : some [] = some vs := by simpa [D7] using h
  cases h
  have hz : (Tryz.prog.info? 67).map (·.zero) = some (some (.agg #[])) := by kernel_rfl
  obtain ⟨i, hi, hz⟩ := Option.map_eq_some_iff.1 hz
  exact ⟨i, .agg #[], hi, hz, by rfl, fun v hv => by cases hv⟩
 ·exact V.ah.zero t vs (by simpa [D7, e] using h), V.ah.elem, V.ah.off, V.ah.bool, fun t l h => by
 by_cases e : t = 67
 ·subst e
  have h : some [] = some l := by simpa [D7] using h
  cases h
  refine ⟨#[], by kernel_rfl, by rfl⟩
 ·exact V.ah.fields t l (by simpa [D7, e] using h), V.ah.bytes, V.ah.nilk, V.ah.int, V.ah.map, V.ah.str, V.ah.one, V.ah.seq⟩
theorem tabs : D7.fields 67 = some [] ∧ D7.zero 67 = some [] ∧ D7.ty = tab.ty := ⟨rfl, rfl, rfl⟩
theorem wN (b : Bool) (m : Mem) : TOk Tryz.prog 15 [.c (.bool b)] m dJ (if b = true then some (.tup []) else none) := by
 refine (vK ah (ch := dJ) (if b = true then some (.tup []) else none) Tryz.func15 (by kernel_rfl) rfl rfl (by rfl) ?rid (by rfl) (fun R hkeep => ?_) m)
 case rid => rintro x hx; first | (cases hx; rfl) | (split at hx <;> first | (cases hx; rfl) | cases hx) | (obtain ⟨y, -, rfl⟩ := Option.map_eq_some_iff.1 hx; rfl)
 refine W.go ?_
 cases b with
 | true =>
   refine W.cf rfl ?_
   refine W.go ?_
   refine ⟨by rfl, .inl rfl, ?_⟩
   simp only [Tryz.f15, bE, aD, toT, fin, exb, simprocAttr]
 | false =>
   refine W.ct rfl ?_
   refine W.iZ (base := 0) (ch := dJ) ah 2 (by decide) rfl ?_
   refine aA (by simp only [exb, simprocAttr, tabs]; rfl) ?_
   refine ⟨_, Mj rfl rfl (fun B w I v hv => ?_), by rfl, rfl⟩
   obtain ⟨u, rfl, us, rfl, h⟩ := hv
   cases us with
   | nil => rfl
   | cons a l => cases h
end M
open M (wN)
theorem dI (m : Mem) : COk Tryz.prog 15 [.c (.bool true)] m (.tup []) := wN true m
theorem eG (m : Mem) : XOk Tryz.prog 15 [.c (.bool false)] m dJ := wN false m
theorem Ng (a b : List ByteArray) (ha : a.length ≤ 1000000000) (m : Mem) : COk Tryz.prog 34 [.c (.sl (a.map cStr)), .c (.sl (b.map cStr))] m (.c (.bool (kN a b))) := by
 refine (cB ah Tryz.func34 (by kernel_rfl) rfl rfl (by rfl) (by rfl) (by rfl) (fun R hkeep => ?_) m)
 by_cases hl : a.length = b.length
 ·have hd : decide ((a.length : Int) = (b.length : Int)) = true := by simp [hl]
  repeat (first | refine W.q ?_ | refine W.g ?_ OV)
  refine W.cf rfl ?_
  refine W.go ?_
  refine W.loop (ι := Nat) (fun k => ⟨upd (upd (upd (upd (fun _ => .top) 0 (.c (.sl (a.map cStr)))) 1 (.c (.sl (b.map cStr)))) 12 (.c (.int .i64 a.length))) 13 (.c (.int .i64 k)), Mem.nil⟩) (fun k => k ≤ a.length ∧ kN (a.take k) (b.take k) = true) (fun k => a.length - k) 0 ?start ⟨Nat.zero_le _, by simp [iE]⟩ ?round
  case start =>
   refine nK ?sle ?mle (aI hkeep)
   case mle => repeat (first | exact aZ _ | exact aC _ | refine aY ?_ (by first | rfl | (simp only [av, aL, Nat.reduceEqDiff, reduceIte, List.length_map]; done)))
   case sle => repeat (first | exact aQ _ | exact aK _ | refine aP ?_ (by first | rfl | (simp only [av, aN, aO, Nat.reduceEqDiff, reduceIte, List.length_map]; done)))
  case round =>
   rintro k ⟨hk, hall⟩
   refine W.go ?_
   refine W.cond rfl ?_ ?_
   ·intro hlt
    replace hlt := dtl hlt
    obtain ⟨x, hx⟩ : ∃ x, a[k]? = some x := ⟨_, List.getElem?_eq_getElem hlt⟩
    obtain ⟨y, hy⟩ : ∃ y, b[k]? = some y := ⟨_, List.getElem?_eq_getElem (by omega)⟩
    have ht := xM (p := isT) hl hx hy hall
    refine W.go ?_
    refine W.bM ah 0 aF (by kernel_rfl) (by decide) ?_
    refine aA (by simp only [exb, simprocAttr, cZ hx, cZ hy, cStr]; rfl) ?_
    refine W.cond rfl ?_ ?_
    ·intro hne
     have hf : isT x y = false := by unfold isT; simpa using hne
     refine W.go ?_
     refine W.rt ?_
     simp only [Tryz.f34, bE, aD, toT, fin, exb, simprocAttr]
     simp only [kN, CF (k := k + 1) hl (ht.trans hf)]
    ·intro heq
     have hf : isT x y = true := by unfold isT; simpa using heq
     refine W.go ?_
     refine ⟨k + 1, ⟨hlt, ht.trans hf⟩, by omega, ?_⟩
     exact oF (aI hkeep)
   ·intro hge
    replace hge := dnl hge
    obtain rfl : k = a.length := by omega
    rw [List.take_length, hl, List.take_length] at hall
    refine W.go ?_
    refine W.rt ?_;simp only [Tryz.f34, bE, aD, toT, fin, exb, simprocAttr, hall]
 ·have hd : decide ((a.length : Int) = (b.length : Int)) = false := by simp; omega
  repeat (first | refine W.q ?_ | refine W.g ?_ OV)
  refine W.ct rfl ?_
  refine W.go ?_
  refine W.rt ?_;simp only [Tryz.f34, bE, aD, toT, fin, exb, simprocAttr, sU hl]
theorem d9 (ts l : List ByteArray) (hl : l.length ≤ 1000000000) (m : Mem) : TOk Tryz.prog 33 [.c (.sl (ts.map cStr)), .rptr [.sl (l.map cStr)]] m dJ (if kN l ts = true then some (.tup []) else none) := by
 have he := Ng l ts hl
 refine (vK ah (ch := dJ) (if kN l ts = true then some (.tup []) else none) Tryz.func33 (by kernel_rfl) rfl rfl (by rfl) ?rid (by rfl) (fun R hkeep => ?_) m)
 case rid => rintro x hx; first | (cases hx; rfl) | (split at hx <;> first | (cases hx; rfl) | cases hx) | (obtain ⟨y, -, rfl⟩ := Option.map_eq_some_iff.1 hx; rfl)
 cases hb : kN l ts with
 | true =>
   rw [hb] at he
   refine W.go ?_
   refine W.ak ah 0 (by decide) ?_
   refine xs0 2 ?_
   refine au rfl rfl rfl rfl rfl (by simp) cw2 (he _) ?_
   refine xs0 0 ?_
   refine au rfl rfl rfl rfl rfl (by simp) cw1 (dI _) ?_
   refine xe0 ?_
   refine ⟨by rfl, .inl rfl, ?_⟩
   simp only [Tryz.f33, bE, aD, toT, fin, exb, simprocAttr]
 | false =>
   rw [hb] at he
   refine W.iZ (base := 0) (ch := dJ) ah 3 (by decide) rfl ?_
   refine xs0 2 ?_
   refine au rfl rfl rfl rfl rfl (by simp) cw2 (he _) ?_
   refine xe0 ?_
   exact ⟨_, dS rfl rfl rfl rfl (by simp) cw1 (eG _), by rfl, rfl⟩
end V
end Go.Proofs.YthhpcjoaogmhbaaGreatDoor
end
section
namespace Go.Proofs.YthhpcjoaogmhbaaGreatDoor
namespace V
open Go.RowKit
theorem Hl (l : List Slot) (f : FuncId) (caps : List (List C)) (p : Slot → Bool) (hlen : l.length ≤ 1000000000000) (hk : ∀ x ∈ l, ∀ m, COk Tryz.prog f (.agg (bC x) :: caps.map A.rptr) m (.c (.bool (p x)))) (m : Mem) : COk Tryz.prog 71 [.c (.sl (l.map bC)), .fnR f caps] m (.c (.int .i64 (dR p l))) := by
 refine (cB ah Tryz.func71 (by kernel_rfl) rfl rfl (by rfl) (by rfl) (by rfl) (fun R hkeep => ?_) m)
 refine W.go ?_
 refine W.loop (ι := Nat) (fun k => ⟨upd (upd (upd (upd (upd (fun _ => .top) 0 (.c (.sl (l.map bC)))) 1 (.fnR f caps)) 4 (.c (.int .i64 0))) 7 (.c (.int .i64 l.length))) 8 (.c (.int .i64 k)), Mem.nil⟩) (fun k => k ≤ l.length ∧ (l.take k).any p = false) (fun k => l.length - k) 0 ?start ⟨Nat.zero_le _, rfl⟩ ?round
 case start =>
  exact nA (aI hkeep)
 case round =>
  rintro k ⟨hkl, hno⟩
  refine W.go ?_
  refine W.cond rfl ?_ ?_
  ·intro hlt
   replace hlt := dtl hlt
   obtain ⟨x, hx⟩ : ∃ x, l[k]? = some x := ⟨_, List.getElem?_eq_getElem hlt⟩
   refine W.go ?_
   refine W.ak ah 0 (by decide) ?_
   refine aj 5 Sn ?_
   refine tH rfl rfl rfl rfl rfl (bZ iA (uF _)) (hk x (List.mem_of_getElem? hx) _) ?_
   refine xe0 ?_
   refine W.cond rfl ?_ ?_
   ·intro hp
    refine W.go ?_
    refine W.rt ?_
    simp only [Tryz.f71, bE, aD, toT, fin, exb, simprocAttr]
    rw [yT hno hx hp]
   ·intro hp
    refine W.go ?_
    refine ⟨k + 1, ⟨hlt, ?_⟩, by omega, ?_⟩
    ·rw [List.take_add_one, hx, List.any_append, hno]; simp [hp]
    exact oF (aI hkeep)
  ·intro hge
   replace hge := dnl hge
   obtain rfl : k = l.length := by omega
   rw [List.take_length] at hno
   refine W.go ?_
   refine W.rt ?_
   simp only [Tryz.f71, bE, aD, toT, fin, exb, simprocAttr]
   rw [iF hno]
theorem Cj {α : Type} (p : α → Bool) : ∀ l : List α, (dR p l = -1 ∧ l.find? p = none) ∨ ∃ k x, dR p l = ((k : Nat) : Int) ∧ l[k]? = some x ∧ l.find? p = some x
 | [] => .inl ⟨rfl, rfl⟩
 | x :: l => by
   unfold dR
   cases hp : p x with
   | true => exact .inr ⟨0, x, by simp, rfl, by simp [hp]⟩
   | false =>
     rcases Cj p l with ⟨h1, h2⟩ | ⟨k, y, h1, h2, h3⟩
     ·exact .inl ⟨by simp [h1], by simp [hp, h2]⟩
     ·refine .inr ⟨k + 1, y, ?_, by simpa using h2, by simp [hp, h3]⟩
      have : ¬ (dR p l = -1) := by omega
      simp [this, h1]
theorem Ka (n : ByteArray) (s : Slot) (m : Mem) : COk Tryz.prog 72 [.agg (bC s), .rptr [.str n]] m (.c (.bool (zy n s))) := by
 refine (cB ah Tryz.func72 (by kernel_rfl) rfl rfl (by rfl) (by rfl) (by rfl) (fun R hkeep => ?_) m)
 repeat (first | refine W.q ?_ | refine W.g ?_ (by simp only [exb, simprocAttr, bC]; rfl))
 refine W.rt ?_;simp only [Tryz.f72, bE, aD, toT, fin, exb, simprocAttr, bC] <;> rfl
theorem BQ (l : List Slot) (n : ByteArray) (hl : l.length ≤ 1000000000) (m : Mem) : TOk Tryz.prog 35 [.c (.sl (l.map bC)), .c (.str n)] m dJ ((jF l n).map fun t => .c (.str t)) := by
 refine (vK ah (ch := dJ) ((jF l n).map fun t => A.c (.str t)) Tryz.func35 (by kernel_rfl) rfl rfl (by rfl) ?rid (by rfl) (fun R hkeep => ?_) m)
 case rid => rintro x hx; first | (cases hx; rfl) | (split at hx <;> first | (cases hx; rfl) | cases hx) | (obtain ⟨y, -, rfl⟩ := Option.map_eq_some_iff.1 hx; rfl)
 refine W.go ?_
 refine W.ak ah 0 (by decide) ?_
 refine xs0 2 ?_
 refine bg rfl rfl rfl rfl rfl (by simp) (aB aV (aB (wR (oD rfl rfl)) bf)) (by rfl) (by rfl) (Hl l 72 [[.str n]] (zy n) (by omega) (fun x _ m => Ka n x m)) ?_
 refine xe0 ?_
 rcases Cj (zy n) l with ⟨h1, h2⟩ | ⟨k, x, h1, h2, h3⟩
 ·rw [h1]
  have hr : jF l n = none := by unfold jF; rw [h2]; rfl
  rw [hr]
  (repeat (first | refine W.seq ?_ | refine W.block ?_))
  refine W.iZ (base := 0) (ch := dJ) ah 2 (by decide) rfl ?_
  refine xe0 ?_
  exact ⟨_, dS rfl rfl rfl rfl (by simp) cw1 (eG _), by rfl, rfl⟩
 ·rw [h1]
  have hr : jF l n = some x.type := by unfold jF; rw [h3]; rfl
  rw [hr]
  have hk : decide ((0 : Int) ≤ (k : Int)) = true := by simp
  have hk0 : (0 : Int) ≤ (k : Int) := by omega
  obtain ⟨xt, xn⟩ := x
  (repeat (first | refine W.seq ?_ | refine W.block ?_))
  refine W.ak ah 0 (by decide) ?_
  refine aj 2 (by simp only [exb, simprocAttr, hk]; rfl) ?_
  refine au rfl rfl rfl rfl rfl (by simp) cw1 (dI _) ?_
  refine xe0 ?_
  repeat (first | refine W.q ?_ | refine W.g ?_ (by simp only [exb, simprocAttr, hk0, Int.toNat_natCast, cZ h2, bC]; rfl))
  refine W.ret ⟨by rfl, .inr rfl, ?_⟩
  simp only [Tryz.f35, bE, aD, toT, fin, exb, simprocAttr, Option.map_some]
def ckC (cs : List Class) (main : List Stmt) (inn ret : ByteArray) (env : List Slot) : List C := [.sl (cs.map ay), .sl (bJ main), .str inn, .str ret, .sl (env.map bC)]
theorem Ri (p : Program) (inn ret : ByteArray) (env : List Slot) (hlen : p.classes.length ≤ 1000000000) (hchk : ∀ m, COk Tryz.prog 12 [.agg (dz p)] m (.c (.int .i64 0))) (x : ByteArray) (y : Slot) (M : Mem)
 (h2 : M 2 = some (.box 51 [.rptr (ckC p.classes p.main inn ret env)])) (hfar : ∀ d, M (1000 + d) = none) :
 gU Tryz.prog 40 [.c (.str x), .agg (bC y), .ptr 2 0] M [] (.c (.bool (kr 0 p.classes x y.type))) M := by
 have hfit := fun m => y7 p 0 [.str inn, .str ret, .sl (env.map bC)] x y.type hlen hchk m
 obtain ⟨yt, yn⟩ := y
 refine (oZ ah [] Tryz.func40 (by kernel_rfl) rfl rfl (by rfl) (by rfl) ?ids ?res ?sub ?wfm (fun hWF Rr hkeep => ?_))
 case ids => intro a ha j hj; simp at ha; rcases ha with rfl | rfl | rfl <;> simp [A.ids] at hj; subst hj; simp [h2]
 case res => intro j hj; simp [A.ids] at hj
 case sub => exact fun j hj => hj
 case wfm => exact fun hw => hw
 have h4 : M 1004 = none := hfar 4
 repeat (first | refine W.q ?_ | refine W.region ah 1000 (by decide) (aG (by simp only [exb, simprocAttr, bC, h2, h4, ckC]; rfl)) ?_)
 refine W.ak ah 1000 (by decide) ?_
 refine aj 4 (by simp only [exb, simprocAttr, h2, h4, bC, ckC]; rfl) ?_
 refine au rfl rfl rfl rfl rfl (by simp) cw3 (hfit _) ?_
 refine xe0 ?_
 refine W.ret ⟨.inr rfl, by rfl, ?_, ?mle⟩
 simp only [Tryz.f40, resE, aD, fin, toT, exb, simprocAttr]
 case mle => exact fT (aC _) h4
theorem Eo (p : Program) (inn ret : ByteArray) (env : List Slot) (hlen : p.classes.length ≤ 1000000000) (hchk : ∀ m, COk Tryz.prog 12 [.agg (dz p)] m (.c (.int .i64 0))) (a : List ByteArray) (b : List Slot) (ha : a.length ≤ 1000000000) (M : Mem)
 (h2 : M 2 = some (.box 51 [.rptr (ckC p.classes p.main inn ret env)])) (hfar : ∀ d, M (500 + d) = none) :
 gU Tryz.prog 39 [.c (.sl (a.map cStr)), .c (.sl (b.map bC)), .fn 40 [2]] M [] (.c (.bool (qd p.classes a b))) M := by
 have h9 : M 509 = none := hfar 9
 have h2o : ∀ o : O, (upd M 509 (some o)) 2 = some (.box 51 [.rptr (ckC p.classes p.main inn ret env)]) := fun o => by rw [upd_ne _ _ (by decide)]; exact h2
 have hk := fun x y o => Ri p inn ret env hlen hchk x y (upd M 509 (some o)) (by rw [upd_ne _ _ (by decide)]; exact h2) (fun d => by rw [upd_ne _ _ (by omega), show 1000 + d = 500 + (500 + d) by omega]; exact hfar _)
 refine (oZ ah [] Tryz.func39 (by kernel_rfl) rfl rfl (by rfl) (by rfl) ?ids ?res ?sub ?wfm (fun hWF Rr hkeep => ?_))
 case ids => intro a ha j hj; simp at ha; rcases ha with rfl | rfl | rfl <;> simp [A.ids] at hj; subst hj; simp [h2]
 case res => intro j hj; simp [A.ids] at hj
 case sub => exact fun j hj => hj
 case wfm => exact fun hw => hw
 have kept : ∀ j, Rr.keep j → (M j).isSome = true := fun j hj => by rw [hkeep] at hj; exact hj.1
 by_cases hl : a.length = b.length
 ·have hd : decide ((a.length : Int) = (b.length : Int)) = true := by simp [hl]
  repeat (first | refine W.q ?_ | refine W.region ah 500 (by decide) (aG OV) ?_)
  refine W.cf rfl ?_
  repeat (first | refine W.q ?_ | refine W.region ah 500 (by decide) xr0 ?_)
  refine W.loop (ι := Nat) (fun k => ⟨upd (upd (upd (upd (upd (fun _ => .top) 1 (.c (.sl (b.map bC)))) 2 (.fn 40 [2])) 15 (.c (.sl (a.map cStr)))) 16 (.c (.int .i64 a.length))) 17 (.c (.int .i64 k)), M⟩) (fun k => k ≤ a.length ∧ qd p.classes (a.take k) (b.take k) = true) (fun k => a.length - k) 0 ?start ⟨Nat.zero_le _, by simp [iE]⟩ ?round
  case start =>
   refine dh ?sle ?mle ?swf ?mwf kept (by rfl)
   case swf => repeat (first | exact aT _ | refine aU ?_ (by simp [A.ids, av, h2, List.length_map]))
   case mwf => repeat (first | exact EA hWF (fun i hi => by repeat (first | exact hi | refine bV i ?_)) | refine bU ?_ (by simp [A.ids, O.ids, av, h2, List.length_map]))
   case mle => repeat (first | exact aC _ | refine aY ?_ (by first | rfl | (simp only [av, aL, O.kill, A.kill, Nat.reduceEqDiff, reduceIte, Option.map_some, Option.map_none, List.map_cons, List.map_nil, h2, List.length_map]; done)))
   case sle => repeat (first | exact aQ _ | exact aK _ | refine aP ?_ (by first | rfl | (simp only [av, aM, A.kill, aN, aO, Nat.reduceEqDiff, reduceIte, h2, List.length_map]; done)))
  case round =>
   rintro k ⟨hkl, hall⟩
   repeat (first | refine W.q ?_ | refine W.region ah 500 (by decide) xr0 ?_)
   refine W.cond rfl ?_ ?_
   ·intro hlt
    replace hlt := dtl hlt
    obtain ⟨x, hx⟩ : ∃ x, a[k]? = some x := ⟨_, List.getElem?_eq_getElem hlt⟩
    obtain ⟨y, hy⟩ : ∃ y, b[k]? = some y := ⟨_, List.getElem?_eq_getElem (by omega)⟩
    have ht := xM (p := fun t s => kr 0 p.classes t s.type) hl hx hy hall
    obtain ⟨yt, yn⟩ := y
    repeat (first | refine W.q ?_ | refine W.region ah 500 (by decide) (aG (by simp only [exb, simprocAttr, cZ hx, cZ hy, cStr, bC, h9]; rfl)) ?_)
    simp only [iO]
    refine W.ak ah 500 (by decide) ?_
    refine aj 3 (by simp only [exb, simprocAttr, cZ hx, cZ hy, cStr, bC]; rfl) ?_
    refine aJ (D := []) (ids := [2]) rfl rfl rfl rfl rfl (fun j hj => by simp at hj) (by intro j hj; rw [List.mem_singleton] at hj; subst hj; exact ⟨_, _, h2o (.box 35 [.c (.str yt), .c (.str yn)])⟩) (by exact cw3) (hk x ⟨yt, yn⟩ _) ?_
    simp only [bQ, dw, iO]
    refine xe0 ?_
    refine W.cond rfl ?_ ?_
    ·intro hne
     have hf : kr 0 p.classes x yt = false := by simpa using hne
     repeat (first | refine W.q ?_ | refine W.region ah 500 (by decide) xr0 ?_)
     refine W.ret ⟨.inr rfl, by rfl, ?_, ?mle⟩
     simp only [Tryz.f39, resE, aD, fin, toT, exb, simprocAttr]
     ·simp only [qd, CF (k := k + 1) hl (ht.trans hf)]
     case mle => exact fT (aC _) h9
    ·intro heq
     have hf : kr 0 p.classes x yt = true := by simpa using heq
     repeat (first | refine W.q ?_ | refine W.region ah 500 (by decide) xr0 ?_)
     refine ⟨k + 1, ⟨hlt, ht.trans hf⟩, by omega, ?_⟩
     refine dh ?sle ?mle ?swf ?mwf (fun j hj => by repeat (first | exact kept j hj | refine bV j ?_)) (by rfl)
     case swf => repeat (first | exact aT _ | refine aU ?_ (by simp [A.ids, av, h2]))
     case mwf => exact EA hWF (fun i hi => by repeat (first | exact hi | refine bV i ?_))
     case mle => exact fT (aC _) h9
     case sle => repeat (first | exact aQ _ | exact aK _ | refine aP ?_ Ol)
   ·intro hge
    replace hge := dnl hge
    obtain rfl : k = a.length := by omega
    rw [List.take_length, hl, List.take_length] at hall
    repeat (first | refine W.q ?_ | refine W.region ah 500 (by decide) xr0 ?_)
    refine W.ret ⟨.inr rfl, by rfl, ?_, ?mle⟩
    simp only [Tryz.f39, resE, aD, fin, toT, exb, simprocAttr, hall]
    case mle => exact aC _
 ·have hd : decide ((a.length : Int) = (b.length : Int)) = false := by simp; omega
  repeat (first | refine W.q ?_ | refine W.region ah 500 (by decide) (aG OV) ?_)
  refine W.ct rfl ?_
  repeat (first | refine W.q ?_ | refine W.region ah 500 (by decide) xr0 ?_)
  refine W.ret ⟨.inr rfl, by rfl, ?_, ?mle⟩
  simp only [Tryz.f39, resE, aD, fin, toT, exb, simprocAttr, sU hl]
  case mle => exact aC _
structure HAppendNil (T : Tab) (ops : Array Oper) (o : Oper) (st : St) (c : Call) (x y : Operand) (t d id e n b : Nat) (zs : List Value) (ys : List (List C)) : Prop where
 want : fE ops o st.s = some true
 op : o.op = .call c
 callee : c.callee = .builtin .append
 args : c.args = #[x, y]
 tys : c.argTypes = #[t, t]
 dst : o.dst = some d
 at_ : ev st.s x = .nil
 free : st.m id = none
 val : asC st.m (ev st.s y) = some (.sl ys)
 elem : T.elem t = some (e, n)
 bytes : T.bytes e = some b
 zero : T.zero e = some zs
 zlen : zs.length = n
 lens : ∀ z ∈ ys, z.length = n
 bound : ys.length * b ≤ 140737488355328
 small : ys.length ≤ maxLen
section
variable {P : Go.Program} {T : Tab} (hT : T.Ok P) {kp : Nat → Prop} {ops : Array Oper}
include hT
end
def r9 : Tab := { tab with lit := true }
namespace L
theorem ah : r9.Ok Tryz.prog := ⟨V.ah.ty, V.ah.zero, V.ah.elem, V.ah.off, V.ah.bool, V.ah.fields, V.ah.bytes, V.ah.nilk, V.ah.int, V.ah.map, V.ah.str, V.ah.one, V.ah.seq⟩
theorem tabs : r9.ty = tab.ty ∧ r9.zero = tab.zero ∧ r9.elem = tab.elem ∧ r9.off = tab.off ∧ r9.bool = tab.bool ∧ r9.fields = tab.fields ∧ r9.bytes = tab.bytes ∧ r9.nilk = tab.nilk ∧ r9.int = tab.int ∧ r9.map = tab.map ∧ r9.str = tab.str ∧ r9.one = tab.one ∧ r9.seq = tab.seq ∧ r9.eff = tab.eff ∧ r9.lit = true := ⟨rfl, rfl, rfl, rfl, rfl, rfl, rfl, rfl, rfl, rfl, rfl, rfl, rfl, rfl, rfl⟩
end L
end V
end Go.Proofs.YthhpcjoaogmhbaaGreatDoor
end
section
namespace Go.Proofs.YthhpcjoaogmhbaaGreatDoor
namespace V
open Go.RowKit
def JH : A → Option A1
 | .agg xs => some (.agg xs)
 | a => a.down
def uZ (key y : A1) (ents : List (A1 × A1)) : Option (Nat × A1) → List (A1 × A1)
 | some (i, _) => ents.set i (key, y)
 | none => ents ++ [(key, y)]
structure HPut (T : Tab) (ops : Array Oper) (o : Oper) (st : St) (t : Nat) (x k v : Operand) (j kt e : Nat) (key y : A1) (ents : List (A1 × A1)) (r : Option (Nat × A1)) : Prop where
 want : fE ops o st.s = some true
 op : o.op = .mapUpdate t x k v ∨ o.op = .insert t x k v
 dst : o.dst = none
 at_ : ev st.s x = .map j
 obj : st.m j = some (.map ents)
 map : T.map t = some (kt, e)
 keyed : toKey (ev st.s k) = some key
 kty : mM T kt key = true
 val : JH (ev st.s v) = some y
 find : gF key ents = some r
section
variable {P : Go.Program} {T : Tab} {w0 w : World} {I0 I : Nat → Nat → Prop} {B : Nat → Value} {m : Mem}
theorem Pb {a : A} {y : A1} {v : Value} (h : JH a = some y) (hv : RV B w I a v) : R1 B w I y v ∧ ∀ j ∈ y.ids, j ∈ a.ids := by
 unfold JH at h
 split at h
 ·cases h; exact ⟨hv, fun j hj => by simp [A1.ids] at hj⟩
 ·exact ⟨lg h hv, iH h⟩
theorem REs.set : ∀ {l : List (A1 × A1)} {es : List MapEntry} (i : Nat) (p : A1 × A1) (e : MapEntry), REs B w I l es → R1 B w I p.1 e.key → R1 B w I p.2 e.val → REs B w I (l.set i p) (es.set i e)
 | [], [], _, _, _, _, _, _ => trivial
 | _ :: _, _ :: _, 0, _, _, h, h1, h2 => ⟨⟨h1, h2⟩, h.2⟩
 | _ :: _, _ :: _, i + 1, p, e, h, h1, h2 => ⟨h.1, REs.set i p e h.2 h1 h2⟩
theorem REs.push : ∀ {l : List (A1 × A1)} {es : List MapEntry} (p : A1 × A1) (e : MapEntry), REs B w I l es → R1 B w I p.1 e.key → R1 B w I p.2 e.val → REs B w I (l ++ [p]) (es ++ [e])
 | [], [], _, _, _, h1, h2 => ⟨⟨h1, h2⟩, trivial⟩
 | _ :: _, _ :: _, p, e, h, h1, h2 => ⟨h.1, REs.push p e h.2 h1 h2⟩
theorem MR.OL (h : MR w0 I0 B I m w) {j r : Nat} {ents ents' : List (A1 × A1)} {es es' : Array MapEntry} {clock clock' : Nat} (hj : m j = some (.map ents)) (hB : B j = .map (some r)) (hh : w.heap[r]? = some (.map es clock)) (hno : ∀ p, ¬ I r p) (hes : REs B w I ents' es'.toList) (hl : ∀ i ∈ (O.map ents').ids, (m i).isSome = true) :
 MR w0 I0 B I (upd m j (some (.map ents'))) { w with heap := w.heap.setIfInBounds r (.map es' clock') } ∧ Ext w { w with heap := w.heap.setIfInBounds r (.map es' clock') } I I := by
 have hs := MapKept.heap_set (o' := .map es' clock') hh
 refine h.turn hj (b := r) hB (fun k hk => ?_) hno rfl rfl rfl (by simp) (fun k hk => hs.2 k hk) hl (fun hE => ⟨r, es', clock', hB, hs.1, hes.mono hE (fun _ _ => rfl), hno⟩)
 have hk : B j = .map (some k) := hk
 rw [hB] at hk; cases hk; rfl
end
variable {P : Go.Program} {T : Tab} (hT : T.Ok P) {kp : Nat → Prop} {ops : Array Oper}
theorem EN {key y : A1} {ents : List (A1 × A1)} {r : Option (Nat × A1)} : ∀ i ∈ (O.map (uZ key y ents r)).ids, i ∈ (O.map ents).ids ∨ i ∈ key.ids ∨ i ∈ y.ids := by
 intro i hi
 obtain ⟨p, hp, hq⟩ := List.mem_flatMap.1 hi
 have : p ∈ ents ∨ p = (key, y) := by
  unfold uZ at hp
  split at hp
  ·exact List.mem_or_eq_of_mem_set hp
  ·simpa using hp
 rcases this with h | rfl
 ·exact .inl (List.mem_flatMap.2 ⟨p, h, hq⟩)
 ·exact .inr (by simpa using hq)
include hT
theorem Qb {o : Oper} {st : St} {t : Nat} {x k v : Operand} {j kt e : Nat} {key y : A1} {ents : List (A1 × A1)} {r : Option (Nat × A1)} (h : HPut T ops o st t x k v j kt e key y ents r) :
 Eff P T kp ops o st ⟨st.s, upd st.m j (some (.map (uZ key y ents r)))⟩ := by
 have yl : ∀ {i : Nat}, WF st → i ∈ y.ids → (st.m i).isSome = true := fun {i} hw hi => by
  have : ∀ {a : A}, JH a = some y → i ∈ a.ids := fun {a} ha => by
   unfold JH at ha
   split at ha
   ·cases ha; simp [A1.ids] at hi
   ·exact iH ha i hi
  have hi' := this h.val
  cases hv : v with
  | tmp t => rw [hv] at hi'; exact hw.ids t i hi'
  | const c => rw [hv] at hi'; simp only [ev, gX] at hi'; simp at hi'
  | func f => rw [hv] at hi'; simp [ev, A.ids] at hi'
  | global g => rw [hv] at hi'; simp [ev, A.ids] at hi'
 have kl : key.ids = [] := by
  have := h.keyed
  unfold toKey at this
  split at this <;> cases this <;> rfl
 have live : WF st → ∀ i ∈ (O.map (uZ key y ents r)).ids, (st.m i).isSome = true := fun hw i hi => by
  rcases EN i hi with q | q | q
  ·exact hw.live j _ h.obj i q
  ·rw [kl] at q; simp at q
  ·exact yl hw q
 have liv : ∀ i, (st.m i).isSome = true → (upd st.m j (some (O.map (uZ key y ents r))) i).isSome = true := fun i hi => by
  unfold upd; split
  ·rfl
  ·exact hi
 have wf : WF st → WF ⟨st.s, upd st.m j (some (.map (uZ key y ents r)))⟩ := fun hw => ⟨fun t i hi => liv i (hw.ids t i hi), fun id z hz i hi => by
  have hz : upd st.m j (some (O.map (uZ key y ents r))) id = some z := hz
  unfold upd at hz
  split at hz
  ·cases hz; exact liv i (live hw i hi)
  ·exact liv i (hw.live id z hz i hi)⟩
 refine ⟨by rcases h.op with e | e <;> rw [e] <;> rfl, wf, fun R n0 ds a w K Q hR hr hd hK => ?_⟩
 obtain ⟨B, I, hm, hx0, hkp0, hs⟩ := hr.ex
 rw [fP hs h.want, if_pos rfl]
 have hx := iK hs x
 rw [h.at_] at hx
 obtain ⟨hkr, -⟩ := FJ h.keyed (iK hs k)
 obtain ⟨hyr, -⟩ := Pb h.val (iK hs v)
 have hfine := Bc (P := P) hT h.kty hkr
 have hmap := hT.map _ _ _ h.map
 obtain ⟨q, es, clock, hB, hheap, hes, hno⟩ := hm.objs j _ h.obj
 have hxv : a.eval x = .map (some q) := hx.1.trans hB
 have fin : ∃ es' clock', (Instr.mapUpdate t (a.eval x) (a.eval k) (a.eval v)).run P w = .ok () { w with heap := w.heap.setIfInBounds q (.map es' clock') } ∧ REs B w I (uZ key y ents r) es'.toList := by
  rw [hxv]
  rcases oK hT h.kty hkr hes h.find with ⟨e1, e2⟩ | ⟨i, v', e', k', e1, e2, e3, e4, e5, e6⟩
  ·subst e1
   refine ⟨es.push ⟨a.eval k, a.eval v, clock⟩, clock + 1, ?_, by simpa [uZ] using hes.push (key, y) ⟨a.eval k, a.eval v, clock⟩ hkr hyr⟩
   simp [Instr.mapUpdate, run_underlying hmap, MapKept.run_getObj_map hheap, hfine.check, e2, MapKept.run_setObj_map _ hheap, Result.andThen]
  ·subst e1
   have hj : es[i]? = some e' := by simpa using e3
   refine ⟨es.modify i (fun z => { z with key := a.eval k, val := a.eval v }), clock, ?_, ?_⟩
   ·simp [Instr.mapUpdate, run_underlying hmap, MapKept.run_getObj_map hheap, hfine.check, e2, hj, e5, hfine.stays, MapKept.run_setObj_map _ hheap, Result.andThen]
   ·rw [Array.toList_modify, ChangeMaps.modify_eq_set _ _ _ _ e3]
    exact hes.set i (key, y) _ hkr hyr
 obtain ⟨es', clock', r1, r2⟩ := fin
 obtain ⟨hm', hE⟩ := hm.OL (clock' := clock') h.obj hB hheap hno r2 (live hr.wf)
 have hrun : (execOp a.eval o).run P w = .ok .skip { w with heap := w.heap.setIfInBounds q (.map es' clock') } := by
  rcases h.op with e | e <;> simp only [execOp, e, Sem.run_bind, r1, Result.andThen_ok] <;> rfl
 unfold Oper.wp Oper.upon
 rw [hrun]
 have hput : a.put o.dst undef = a := by rw [h.dst]; rfl
 show K (a.put o.dst undef) _
 rw [hput]
 exact hK _ _ ⟨⟨B, I, hm', hx0.trans hE, hkp0, fun t => (hs t).mono hE (fun _ _ => rfl)⟩, (wf hr.wf).ids, hr.size, hr.nn, hr.defs, fun j' hj' => liv j' (hr.kept j' hj')⟩
omit hT in
theorem SR.Jb {R : Ref} {n : Nat} {ds : List Deferred} {st : St} {a : Act} {w : World} (t id : Nat) {ty e lo hi : Nat} {xs : List (List C)} (hr : SR R n ds st a w) (htn : t ≠ DID) (ht : st.s t = .win id e lo hi) (hj : st.m id = some (.mrow ty e xs)) (hh : hi ≤ xs.length) (hkp : ¬ R.keep id) :
 SR R n ds ⟨upd (gD id st.s) t (.own id), upd (eH id st.m) id (some (.mrow ty e ((xs.take hi).drop lo)))⟩ a w := by
 obtain ⟨B, I, hm, hx0, hkp0, hs⟩ := hr.ex
 have hx := hs t
 rw [ht] at hx
 obtain ⟨ad, n0, cap, hB, hlo, hhi, hv⟩ := hx
 obtain ⟨vs, hrow, hvs, hlx, hno⟩ := hm.objs id _ hj
 have hn0 : n0 = xs.length ∧ xs.length ≤ cap := by
  obtain ⟨ad', cp, e5, e6⟩ := hrow.shape
  rw [hB] at e5; cases e5; exact ⟨rfl, e6⟩
 obtain ⟨rfl, hnc⟩ := hn0
 have hvl := hvs.length
 have hfl := lC hlx
 have hlen : ((xs.take hi).drop lo).length = hi - lo := by simp; omega
 have hl1 : vs.length = xs.length * e := hrow.1
 have hle1 : hi * e ≤ xs.length * e := Nat.mul_le_mul_right e hh
 have hle2 : lo * e ≤ hi * e := Nat.mul_le_mul_right e hlo
 have hsub : (hi - lo) * e = hi * e - lo * e := Nat.sub_mul ..
 generalize hv' : a.tmps.getD t undef = v' at hv
 have hvl' : ((vs.take (hi * e)).drop (lo * e)).length = (hi - lo) * e := by simp; omega
 have hrow' : rowAt w ty e v' (hi - lo) ((vs.take (hi * e)).drop (lo * e)) := by
  refine ⟨hvl', ?_⟩
  rcases hrow.2 with ⟨e1, e2⟩ | ⟨g, off, c, cur, e1, hg, hnc', hm', hsz, htk⟩
  ·rw [hB] at e1
   simp only [Value.slice.injEq] at e1
   obtain ⟨rfl, -, rfl⟩ := e1
   obtain rfl : hi = 0 := by omega
   obtain rfl : lo = 0 := by omega
   exact .inl ⟨by rw [hv]; rfl, rfl⟩
  ·rw [hB] at e1
   cases e1
   by_cases hcl : cap = lo
   ·subst hcl
    obtain rfl : hi = cap := by omega
    refine .inr ⟨g, off, 0, cur, by rw [hv]; simp, hg, by omega, by omega, by omega, ?_⟩
    rw [Nat.sub_self, Nat.zero_mul, List.take_zero]
    exact (List.eq_nil_of_length_eq_zero (by rw [hvl']; simp)).symm
   ·have hcs : (cap - lo) * e = cap * e - lo * e := Nat.sub_mul ..
    have hle3 : lo * e ≤ cap * e := Nat.mul_le_mul_right e (by omega)
    refine .inr ⟨g, off + lo * e, cap - lo, cur, by rw [hv, if_neg hcl]; simp [Addr.add], hg, by omega, by omega, by omega, ?_⟩
    rw [← htk, List.take_take, Nat.min_eq_left (by omega), List.drop_take, List.drop_drop, ← hsub]
 have hob : v'.ownBlock = (B id).ownBlock ∨ v'.ownBlock = none := by
  rw [hv, hB]
  cases ad with
  | none => right; split <;> rfl
  | some z =>
    left
    split
    ·rfl
    ·obtain ⟨zb, zo, zs⟩ := z
     simp only [Value.ownBlock, Addr.add, Option.map_some]
     split <;> rfl
 have hflat : flat ((xs.take hi).drop lo) = ((flat xs).take (hi * e)).drop (lo * e) := by
  have ft : ∀ (k : Nat) (l : List (List C)), (∀ x ∈ l, x.length = e) → flat (l.take k) = (flat l).take (k * e) := by
   intro k
   induction k with
   | zero => intro l _; simp [flat]
   | succ k ih =>
     intro l hl
     cases l with
     | nil => simp [flat]
     | cons x l =>
       have hx := hl x (by simp)
       have := ih l (fun y hy => hl y (List.mem_cons_of_mem _ hy))
       have hk : (k + 1) * e = e + k * e := by rw [Nat.add_mul]; omega
       simp only [flat, List.take_succ_cons, List.flatten_cons] at this ⊢
       have h1 : x.length ≤ e + k * e := by omega
       have h2 : e + k * e - x.length = k * e := by omega
       rw [this, hk, List.take_append, List.take_of_length_le h1, h2]
  have fd : ∀ (k : Nat) (l : List (List C)), (∀ x ∈ l, x.length = e) → flat (l.drop k) = (flat l).drop (k * e) := by
   intro k
   induction k with
   | zero => intro l _; simp [flat]
   | succ k ih =>
     intro l hl
     cases l with
     | nil => simp [flat]
     | cons x l =>
       have hx := hl x (by simp)
       have := ih l (fun y hy => hl y (List.mem_cons_of_mem _ hy))
       have hk : (k + 1) * e = e + k * e := by rw [Nat.add_mul]; omega
       simp only [flat, List.drop_succ_cons, List.flatten_cons] at this ⊢
       have h1 : x.length ≤ e + k * e := by omega
       have h2 : e + k * e - x.length = k * e := by omega
       rw [this, hk, List.drop_append, List.drop_eq_nil_of_le h1, h2, List.nil_append]
  rw [fd _ _ (fun x hx => hlx x (List.mem_of_mem_take hx)), ft _ _ hlx]
 have hm' := hm.BM (id := id) (o' := .mrow ty e ((xs.take hi).drop lo)) (v' := v') (w' := w) (I' := I) hj rfl rfl rfl (Nat.le_refl _) (fun _ _ _ => rfl)
  (fun k hk => by
    have hk : (upd B id v' id).ownBlock = some k := hk
    rw [upd_same] at hk
    rcases hob with q | q
    ·rw [q] at hk; exact ⟨(hm.low id _ hj k hk).2, .inl hk⟩
    ·rw [q] at hk; cases hk)
  (Ext.refl _ _) (fun b p hp => .inl hp)
  ⟨_, by rw [upd_same, hlen]; exact hrow', by rw [hflat]; exact (hvs.take _).drop _, fun x hx => hlx x (List.mem_of_mem_take (List.mem_of_mem_drop hx)), fun b hb p hp => by
    rw [upd_same] at hb
    rcases hob with q | q
    ·rw [q] at hb; exact hno b hb p hp
    ·rw [q] at hb; cases hb⟩ (fun i hi => by simp [O.ids] at hi)
 have hwf := Ej hr.wf hj (o' := .mrow ty e ((xs.take hi).drop lo)) (fun i hi => by simp [O.ids] at hi) t (.own id) (fun i hi => by simp [A.ids] at hi; subst hi; simp [hj])
 refine ⟨⟨_, I, hm', hx0, fun j hj' => ?_, fun t' => ?_⟩, hwf.ids, hr.size, hr.nn, ?_, fun j hj' => ?_⟩
 ·rw [upd_ne _ _ (fun e => by subst e; exact hkp hj')]; exact hkp0 j hj'
 ·by_cases htt : t' = t
  ·subst htt
   show RV _ _ _ (upd _ t' _ t') _
   rw [upd_same, hv']
   obtain ⟨ad', cp', q, -⟩ := hrow'.shape
   exact ⟨(upd_same ..).symm, _, _, _, q⟩
  ·show RV _ _ _ (upd _ t _ t') _
   rw [upd_ne _ _ htt]
   rcases (A.dW (id := id) (a := st.s t')).2 with q | ⟨q, hnn⟩
   ·rw [aM, q]; trivial
   ·rw [aM, q]
    exact (hs t').mono (Ext.refl _ _) fun j hj => upd_ne _ _ (fun e => hnn (e ▸ hj))
 ·show a.defers = dfs (upd (gD id st.s) t (.own id) DID) ++ ds
  rw [upd_ne _ _ (fun q => htn q.symm), aM, nD]; exact hr.defs
 ·have := hr.kept j hj'
  show (upd (eH id st.m) id _ j).isSome = true
  unfold upd; split
  ·rfl
  ·simpa [aL] using this
omit hT in
theorem W.Jb {R : Ref} {n : Nat} {ds : List Deferred} {st : St} {c : Code} {K : Exit → St → Prop} (t id : Nat) {ty e lo hi : Nat} {xs : List (List C)} (htn : t ≠ DID) (ht : st.s t = .win id e lo hi) (hj : st.m id = some (.mrow ty e xs)) (hh : hi ≤ xs.length) (hkp : ¬ R.keep id)
 (h : W P R n ds ⟨upd (gD id st.s) t (.own id), upd (eH id st.m) id (some (.mrow ty e ((xs.take hi).drop lo)))⟩ c K) : W P R n ds st c K :=
 fun a w hr => h a w (hr.Jb t id htn ht hj hh hkp)
theorem zJ {base : Nat} {o : Oper} {l : List Oper} {st : St} {k : St → Prop} {t : Nat} {x kx v : Operand} {j kt e : Nat} {key y : A1} {ents : List (A1 × A1)} {r : Option (Nat × A1)} (h : fE ops o st.s = some true) (hop : o.op = .mapUpdate t x kx v ∨ o.op = .insert t x kx v) (hd : o.dst = none)
 (hx : ev st.s x = .map j) (hm : st.m j = some (.map ents)) (h1 : T.map t = some (kt, e)) (hk : toKey (ev st.s kx) = some key) (hkt : mM T kt key = true) (hv : JH (ev st.s v) = some y) (hf : gF key ents = some r)
 (ht2 : jG P T kp base ops l ⟨st.s, upd st.m j (some (.map (uZ key y ents r)))⟩ k) : jG P T kp base ops (o :: l) st k :=
 kQ (.eff (Qb hT ⟨h, hop, hd, hx, hm, h1, hk, hkt, hv, hf⟩)) ht2
end V
end Go.Proofs.YthhpcjoaogmhbaaGreatDoor
end
section
namespace Go.Proofs.YthhpcjoaogmhbaaGreatDoor
namespace V
open Go.RowKit
theorem W.KD {P : Go.Program} {R : Ref} {n : Nat} {ds : List Deferred} {st : St} {c : Code} {K : Exit → St → Prop} (j k id : Nat) {tyb ty : TypeId} {e : Nat} {cells : List A} {xs : List (List C)} (hj : st.m j = some (.box tyb cells)) (hk : cells[k]? = some (.own id)) (hid : st.m id = some (.mrow ty e xs)) (hji : j ≠ id) (hkp : ¬ R.keep id)
 (h : W P R n ds ⟨gD id st.s, upd (upd (eH id st.m) id (some (.arr ty e []))) j (some (.box tyb ((cells.map (A.kill id)).set k (.c (.sl xs)))))⟩ c K) : W P R n ds st c K := by
 intro a w hr
 refine h a w ?_
 obtain ⟨⟨B, I, hm, hx0, hkp0, hs⟩, h2, h3, hnn, h4, h5⟩ := hr
 obtain ⟨I', hm', hE, hrc⟩ := hm.freeze hid
 have hBne : ∀ i, i ≠ id → upd B id (.slice none 0 0) i = B i := fun i hi => upd_ne _ _ hi
 have hj' : upd (eH id st.m) id (some (.arr ty e [])) j = some (.box tyb (cells.map (A.kill id))) := by
  rw [upd_ne _ _ hji, aL, hj]; rfl
 obtain ⟨b, vs, q1, q2, q3, q4⟩ := hm'.objs j _ hj'
 obtain ⟨b0, vs0, p1, p2, p3, p4⟩ := hm.objs j _ hj
 have hbb : b0 = b := by
  rw [hBne j hji, p1] at q1; cases q1; rfl
 subst hbb
 have hvv : vs0 = vs := by
  rw [p2] at q2
  have := Option.some.inj q2
  simp at this; exact this
 subst hvv
 have liv0 : ∀ i, (st.m i).isSome = true → (upd (eH id st.m) id (some (.arr ty e [])) i).isSome = true := fun i hi => by
  unfold upd; split
  ·rfl
  ·rw [aL]; simpa using hi
 obtain ⟨hm2, hE2⟩ := hm'.turn (w' := w) (o' := .box tyb ((cells.map (A.kill id)).set k (.c (.sl xs)))) hj' ⟨0, q1⟩ (fun q hq => by obtain ⟨off, hq⟩ := hq; rw [q1] at hq; cases hq; rfl) q4 rfl rfl rfl rfl (fun _ _ => rfl) (fun i hi => by
  obtain ⟨a', ha', hi'⟩ := List.mem_flatMap.1 hi
  rcases List.mem_or_eq_of_mem_set ha' with ha' | rfl
  ·exact hm'.live j _ hj' i (List.mem_flatMap.2 ⟨a', ha', hi'⟩)
  ·simp [A.ids] at hi') (fun _ => by
  refine ⟨b0, vs0, q1, q2, ?_, q4⟩
  have hl := q3.length
  refine RVs.of Jj fun q a' v' ha' hv' => ?_
  rw [List.getElem?_set] at ha'
  split at ha'
  ·rename_i hq
   subst hq
   split at ha'
   ·cases ha'
    obtain ⟨v2, r1, r2, r3⟩ := p3.at k _ hk
    rw [hv'] at r1; cases r1
    have hv : v' = B id := r2.1
    exact ⟨by show RC _ _ _ _; rw [hv]; exact hrc, r3⟩
   ·cases ha'
  ·obtain ⟨v2, r1, r2, r3⟩ := q3.at q _ ha'
   rw [hv'] at r1; cases r1
   exact ⟨r2, r3⟩)
 have liv : ∀ i, (st.m i).isSome = true → (upd (upd (eH id st.m) id (some (.arr ty e []))) j (some (.box tyb ((cells.map (A.kill id)).set k (.c (.sl xs))))) i).isSome = true := fun i hi => bV i (liv0 i hi)
 refine ⟨⟨_, I', hm2, hx0.trans hE, fun i hi => (hBne i (fun e => hkp (e ▸ hi))).trans (hkp0 i hi), fun u => ?_⟩, fun u i hi => ?_, h3, hnn, ?_, fun i hi => liv i (h5 i hi)⟩
 ·show RV _ w I' (gD id st.s u) _
  rw [aM]
  rcases (A.dW (id := id) (a := st.s u)).2 with q | ⟨q, hn⟩
  ·rw [q]; trivial
  ·rw [q]
   exact (hs u).mono hE fun i hi => hBne i (fun e => hn (e ▸ hi))
 ·replace hi : i ∈ (gD id st.s u).ids := hi
  rw [aM] at hi
  exact liv i (h2 u i ((A.dW (id := id) (a := st.s u)).1 i hi).1)
 ·show _ = dfs (gD id st.s DID) ++ ds
  rw [aM, nD]; exact h4
def vw : Tab := { tab with eff := fun f => f == 39 }
theorem X.ah : vw.Ok Tryz.prog := ⟨V.ah.ty, V.ah.zero, V.ah.elem, V.ah.off, V.ah.bool, V.ah.fields, V.ah.bytes, V.ah.nilk, V.ah.int, V.ah.map, V.ah.str, V.ah.one, V.ah.seq⟩
theorem X.tabs : vw.ty = tab.ty ∧ vw.zero = tab.zero ∧ vw.elem = tab.elem ∧ vw.off = tab.off ∧ vw.bool = tab.bool ∧ vw.fields = tab.fields ∧ vw.bytes = tab.bytes ∧ vw.nilk = tab.nilk ∧ vw.int = tab.int ∧ vw.map = tab.map ∧ vw.str = tab.str ∧ vw.one = tab.one ∧ vw.seq = tab.seq := ⟨rfl, rfl, rfl, rfl, rfl, rfl, rfl, rfl, rfl, rfl, rfl, rfl, rfl⟩
mutual
def yj : Expr → Prop
 | ⟨k, _, _, kids⟩ => (k = 7 → kids.length = 1) ∧ (k = 10 → 1 ≤ kids.length) ∧ (k = 18 → kids.length = 2) ∧ kids.length ≤ 1048576 ∧ kV kids
def kV : List Expr → Prop
 | [] => True
 | x :: l => yj x ∧ kV l
end
theorem kV.mem : ∀ {l : List Expr} {x : Expr}, kV l → x ∈ l → yj x
 | y :: l, x, h, hx => by
   simp only [kV] at h
   rcases List.mem_cons.1 hx with rfl | hx
   ·exact h.1
   ·exact kV.mem h.2 hx
theorem o8 (cs : List Class) (inn : ByteArray) (env : List Slot) : ∀ (l : List Expr) (x : Expr) {ts : List ByteArray}, eP cs inn env l = some ts → eP cs inn env (l ++ [x]) = (jP cs inn env x).map fun t => ts ++ [t]
 | [], x, ts, h => by
   simp only [eP] at h
   cases h
   simp only [List.nil_append, eP]
   cases jP cs inn env x <;> rfl
 | y :: l, x, ts, h => by
   simp only [eP] at h
   simp only [List.cons_append, eP]
   cases hy : jP cs inn env y with
   | none => rw [hy] at h; cases h
   | some t =>
     rw [hy] at h
     cases hl : eP cs inn env l with
     | none => rw [hl] at h; cases h
     | some us =>
       rw [hl] at h
       cases h
       simp only
       rw [o8 cs inn env l x hl]
       cases jP cs inn env x <;> rfl
theorem uh (cs : List Class) (inn : ByteArray) (env : List Slot) : ∀ (l r : List Expr), eP cs inn env l = none → eP cs inn env (l ++ r) = none
 | [], r, h => by simp only [eP] at h; cases h
 | y :: l, r, h => by
   simp only [eP] at h
   simp only [List.cons_append, eP]
   cases hy : jP cs inn env y with
   | none => rfl
   | some t =>
     rw [hy] at h
     simp only
     cases hl : eP cs inn env l with
     | none => rw [uh cs inn env l r hl]; rfl
     | some us => rw [hl] at h; cases h
theorem CJ (cs : List Class) (inn : ByteArray) (env : List Slot) : ∀ (l : List Expr) {ts : List ByteArray}, eP cs inn env l = some ts → ts.length = l.length
 | [], ts, h => by simp only [eP] at h; cases h; rfl
 | y :: l, ts, h => by
   simp only [eP] at h
   cases hy : jP cs inn env y with
   | none => rw [hy] at h; cases h
   | some t =>
     rw [hy] at h
     cases hl : eP cs inn env l with
     | none => rw [hl] at h; cases h
     | some us => rw [hl] at h; cases h; simp [CJ cs inn env l hl]
def tC (ts : List ByteArray) (n : Nat) : List (List C) := ts.map cStr ++ List.replicate (n - ts.length) [C.str tNo]
theorem Bd (n : Nat) : tC [] n = List.replicate n [C.str tNo] := by simp [tC]
theorem vT {ts : List ByteArray} {n : Nat} {t : ByteArray} (h : ts.length < n) : (tC ts n).set ts.length [C.str t] = tC (ts ++ [t]) n := by
 unfold tC
 obtain ⟨d, hd⟩ : ∃ d, n - ts.length = d + 1 := ⟨n - ts.length - 1, by omega⟩
 have hd2 : n - (ts ++ [t]).length = d := by rw [List.length_append, List.length_singleton]; omega
 rw [hd, hd2, List.set_append_right _ _ (by simp), List.length_map, Nat.sub_self, List.replicate_succ, List.set_cons_zero, List.map_append, List.append_assoc]
 rfl
theorem Io {ts : List ByteArray} {n : Nat} (h : ts.length < n) : (tC ts n)[ts.length]? = some [C.str tNo] := by
 unfold tC
 obtain ⟨d, hd⟩ : ∃ d, n - ts.length = d + 1 := ⟨n - ts.length - 1, by omega⟩
 rw [hd, List.getElem?_append_right (by simp), List.length_map, Nat.sub_self, List.replicate_succ]; rfl
theorem Ct {ts : List ByteArray} {n : Nat} (h : ts.length = n) : tC ts n = ts.map cStr := by
 unfold tC
 rw [h, Nat.sub_self]; simp
theorem Fh {ts : List ByteArray} {n : Nat} (h : ts.length ≤ n) : (tC ts n).length = n := by
 unfold tC
 rw [List.length_append, List.length_map, List.length_replicate]; omega
theorem FT {cs : List Class} (hS : gN cs) (hlen : cs.length ≤ 16) (n : ByteArray) : (gT 0 cs n).length ≤ 1000000000 := by
 unfold gT
 rw [if_pos rfl]
 have h1 := qy hS (upX cs (cs.length + 1) 0 n)
 have h2 := nP cs (cs.length + 1) 0 n
 have h3 : (upX cs (cs.length + 1) 0 n).length ≤ 17 := by omega
 have := Nat.mul_le_mul_right 1048576 h3
 omega
section
variable (p : Program) (inn ret : ByteArray) (env : List Slot) (hS : gN p.classes) (hB : mZ p.classes) (hlen : p.classes.length ≤ 16) (henv : env.length ≤ 1000000000) (hchk : ∀ m, COk Tryz.prog 12 [.agg (dz p)] m (.c (.int .i64 0)))
include hS hB hlen henv hchk
set_option maxHeartbeats 8000000 in
theorem EH : ∀ (n : Nat) (x : Expr), SizeOf.sizeOf x ≤ n → yj x → ∀ m, TOk Tryz.prog 16 [.rptr (ckC p.classes p.main inn ret env), .agg (cExpr x)] m dJ ((jP p.classes inn env x).map fun t => .c (.str t)) := by
 intro n
 induction n using Nat.strongRecOn with
 | ind n ih =>
 rintro ⟨k, nn, nm, kids⟩ hn hK m
 have hsz := Expr.mk.sizeOf_spec k nn nm kids
 simp only [yj] at hK
 obtain ⟨k7, k10, k18, kl, kk⟩ := hK
 simp only [cExpr, eZ]
 refine (vK ah (ch := dJ) ((jP p.classes inn env ⟨k, nn, nm, kids⟩).map fun t => A.c (.str t)) Tryz.func16 (by kernel_rfl) rfl rfl (by rfl) ?rid (by rfl) (fun R hkeep => ?_) m)
 case rid => rintro x hx; first | (cases hx; rfl) | (split at hx <;> first | (cases hx; rfl) | cases hx) | (obtain ⟨y, -, rfl⟩ := Option.map_eq_some_iff.1 hx; rfl)
 have hkl : (kids.length : Int) ≤ 9223372036854775807 := by omega
 have hkb : kids.length * 16 ≤ 140737488355328 := by omega
 repeat (first | refine W.q ?_ | refine W.g ?_ (by simp only [exb, simprocAttr, List.length_map, hkl, hkb, Int.toNat_natCast, Int.natCast_nonneg, and_self]; rfl))
 refine W.loop (ι := List ByteArray) (fun ts => ⟨upd (upd (upd (upd (upd (upd (fun _ => .top) 2 (.ptr 2 0)) 3 (.ptr 3 0)) 5 (.ptr 5 0)) 20 (.c (.sl (kids.map cExpr)))) 21 (.c (.int .i64 kids.length))) 22 (.c (.int .i64 ts.length)),
  upd (upd (upd (upd Mem.nil 2 (some (.box 51 [.rptr (ckC p.classes p.main inn ret env)]))) 3 (some (.box 29 [.c (.int .i64 k), .c (.int .i64 nn), .c (.str nm), .c (.sl (kids.map cExpr))]))) 5 (some (.box 55 [.own 18]))) 18 (some (.mrow 9 1 (tC ts kids.length)))⟩)
  (fun ts => ts.length ≤ kids.length ∧ eP p.classes inn env (kids.take ts.length) = some ts) (fun ts => kids.length - ts.length) [] ?start ⟨Nat.zero_le _, by simp [eP]⟩ ?round
 case start =>
  refine nK ?sle ?mle (aI hkeep)
  case mle => repeat (first | exact aZ _ | exact aC _ | refine aY ?_ (by first | rfl | (simp only [av, aL, Nat.reduceEqDiff, reduceIte, Bd]; done)))
  case sle => repeat (first | exact aQ _ | exact aK _ | refine aP ?_ (by first | rfl | (simp only [av, aN, aO, Nat.reduceEqDiff, reduceIte, Bd]; done)))
 case round =>
  rintro ts ⟨hk, hall⟩
  refine W.go ?_
  refine W.cond rfl ?_ ?_
  ·intro hlt
   replace hlt := dtl hlt
   obtain ⟨x, hx⟩ : ∃ x, kids[ts.length]? = some x := ⟨_, List.getElem?_eq_getElem hlt⟩
   have hxm := List.mem_of_getElem? hx
   have hxs := List.sizeOf_lt_of_mem hxm
   have hT := ih (SizeOf.sizeOf x) (by omega) x (Nat.le_refl _) (kk.mem hxm)
   have htk : kids.take (ts.length + 1) = kids.take ts.length ++ [x] := by rw [List.take_add_one, hx]; rfl
   have happ := o8 p.classes inn env (kids.take ts.length) x hall
   have hrl := Fh (ts := ts) (n := kids.length) (by omega)
   have hlt' : ts.length < (tC ts kids.length).length := by omega
   rw [← htk] at happ
   have hat := cZ (f := cExpr) hx
   obtain ⟨xk, xn, xm, xks⟩ := x
   simp only [cExpr, eZ] at hT hat
   cases ht : jP p.classes inn env ⟨xk, xn, xm, xks⟩ with
   | some t =>
     rw [ht] at happ
     repeat (first | refine W.q ?_ | refine W.g ?_ IE)
     refine W.bM ah 0 aF (by kernel_rfl) (by decide) ?_
     have hT1 : ∀ m, COk Tryz.prog 16 [.rptr (ckC p.classes p.main inn ret env), .agg [.int .i64 xk, .int .i64 xn, .str xm, .sl (xks.map cExpr)]] m (.c (.str t)) := fun m => by have := hT m; rw [ht] at this; exact this
     refine xs0 4 ?_
     refine bg rfl rfl rfl rfl rfl (by simp) (aB aV (aB aV bf)) (by rfl) (by rfl) hT1 ?_
     refine aA (by simp only [exb, simprocAttr, hlt', Io hlt, vT hlt]; rfl) ?_
     refine W.go ?_
     refine ⟨ts ++ [t], ⟨by simp only [List.length_append, List.length_singleton]; omega, by rw [List.length_append, List.length_singleton, happ]; rfl⟩, by simp only [List.length_append, List.length_singleton]; omega, ?_⟩
     refine nK ?sle ?mle (aI hkeep)
     case mle => repeat (first | exact aZ _ | exact aC _ | refine aY ?_ (by first | rfl | (simp only [av, aL, Nat.reduceEqDiff, reduceIte, vT hlt, List.length_append, List.length_singleton, aR (show ts.length + 1 < 9223372036854775808 by omega)]; done)))
     case sle => repeat (first | exact aQ _ | exact aK _ | refine aP ?_ (by first | rfl | (simp only [av, aN, aO, Nat.reduceEqDiff, reduceIte, vT hlt, List.length_append, List.length_singleton, aR (show ts.length + 1 < 9223372036854775808 by omega)]; done)))
   | none =>
     rw [ht] at happ
     have hno : jP p.classes inn env ⟨k, nn, nm, kids⟩ = none := by
      have := uh p.classes inn env (kids.take (ts.length + 1)) (kids.drop (ts.length + 1)) happ
      rw [List.take_append_drop] at this
      simp only [jP, this, Option.bind_none]
     rw [hno]
     repeat (first | refine W.q ?_ | refine W.g ?_ IE)
     refine W.sj (base := 0) (ch := dJ) ah 4 [29, 30, 1000000] aF (by kernel_rfl) (by decide) rfl ?_
     refine xe0 ?_
     intro st' hs hm
     refine ⟨_, iY rfl rfl rfl rfl qh (aB (.inl (.inl (hs 29 (by decide)).symm)) (aB (.inl (.inl (hs 30 (by decide)).symm)) bf)) (fun m => by have := hT m; rw [ht] at this; exact this), ?_, rfl⟩
     show dfs (st'.s 1000000) = []
     rw [hs 1000000 (by decide)]; rfl
  ·intro hge
   replace hge := dnl hge
   have htl : ts.length = kids.length := by omega
   rw [htl, List.take_length] at hall
   have hty : jP p.classes inn env ⟨k, nn, nm, kids⟩ = bN p.classes inn env k nm ts := by simp only [jP, hall, Option.bind_some]
   rw [hty, Ct htl]
   refine W.go ?_
   have htl9 : ts.length ≤ 1000000000 := by omega
   have hlen9 : p.classes.length ≤ 1000000000 := by omega
   refine W.cond rfl ?_ ?_
   ·skip
    intro h
    simp only [decide_eq_true_eq] at h
    subst h
    rw [show bN _ _ _ _ _ _ = _ from rfl]
    refine W.go ?_
    refine W.ret ⟨by rfl, .inr rfl, ?_⟩
    simp only [Tryz.f16, bE, aD, toT, fin, exb, simprocAttr, Option.map_some]
   intro h2
   simp only [decide_eq_false_iff_not] at h2
   refine W.go ?_
   refine W.cond rfl ?_ ?_
   ·skip
    intro h
    simp only [decide_eq_true_eq] at h
    subst h
    cases hi : isT inn tNo with
    | true =>
      rw [show bN _ _ _ _ _ _ = none from by simp [bN, hi]]
      unfold isT at hi
      have hi2 := hi
      rw [iN] at hi2
      (repeat (first | refine W.seq ?_ | refine W.block ?_))
      refine W.iZ (base := 0) (ch := dJ) ah 5 (by decide) rfl ?_
      refine aA Qx ?_
      exact ⟨_, dS rfl rfl rfl rfl (by simp) cw1 (eG _), by rfl, rfl⟩
    | false =>
      rw [show bN _ _ _ _ _ _ = some inn from by simp [bN, hi]]
      unfold isT at hi
      have hi2 := hi
      rw [iN] at hi2
      (repeat (first | refine W.seq ?_ | refine W.block ?_))
      refine W.ak ah 0 (by decide) ?_
      refine aj 5 Qx ?_
      refine au rfl rfl rfl rfl rfl (by simp) cw1 (dI _) ?_
      refine xe0 ?_
      repeat (first | refine W.q ?_ | refine W.g ?_ xV)
      refine W.ret ⟨by rfl, .inr rfl, ?_⟩
      simp only [Tryz.f16, bE, aD, toT, fin, exb, simprocAttr, Option.map_some]
   intro h3
   simp only [decide_eq_false_iff_not] at h3
   refine W.go ?_
   refine W.cond rfl ?_ ?_
   ·skip
    intro h
    simp only [decide_eq_true_eq] at h
    subst h
    have hpk := BQ env nm henv
    cases hp : jF env nm with
    | none =>
      have hpx : ∀ m, XOk Tryz.prog 35 [.c (.sl (env.map bC)), .c (.str nm)] m dJ := fun m => by have := hpk m; rw [hp] at this; exact this
      rw [show bN _ _ _ _ _ _ = none from by simp [bN, hp]]
      (repeat (first | refine W.seq ?_ | refine W.block ?_))
      refine W.sj (base := 0) (ch := dJ) ah 6 [56, 58, 1000000] aF (by kernel_rfl) (by decide) rfl ?_
      refine aA xV ?_
      intro st' hs hm
      refine ⟨_, dS rfl rfl rfl rfl qh (bZ (.inl (hs 56 (by decide)).symm) (bZ (.inl (hs 58 (by decide)).symm) iR)) (hpx _), ?_, rfl⟩
      show dfs (st'.s 1000000) = []
      rw [hs 1000000 (by decide)]; rfl
    | some t =>
      have hpt : ∀ m, COk Tryz.prog 35 [.c (.sl (env.map bC)), .c (.str nm)] m (.c (.str t)) := fun m => by have := hpk m; rw [hp] at this; exact this
      cases hi : isT t tNo with
      | true =>
        rw [show bN _ _ _ _ _ _ = none from by simp [bN, hp, hi]]
        unfold isT at hi
        have hi2 := hi
        rw [iN] at hi2
        (repeat (first | refine W.seq ?_ | refine W.block ?_))
        refine W.bM ah 0 aF (by kernel_rfl) (by decide) ?_
        refine aj 6 xV ?_
        refine au rfl rfl rfl rfl rfl (by simp) cw2 (hpt _) ?_
        refine xe0 ?_
        (repeat (first | refine W.seq ?_ | refine W.block ?_))
        refine W.iZ (base := 0) (ch := dJ) ah 2 (by decide) rfl ?_
        refine aA QG ?_
        exact ⟨_, dS rfl rfl rfl rfl (by simp) cw1 (eG _), by rfl, rfl⟩
      | false =>
        rw [show bN _ _ _ _ _ _ = some t from by simp [bN, hp, hi]]
        unfold isT at hi
        have hi2 := hi
        rw [iN] at hi2
        (repeat (first | refine W.seq ?_ | refine W.block ?_))
        refine W.bM ah 0 aF (by kernel_rfl) (by decide) ?_
        refine aj 6 xV ?_
        refine au rfl rfl rfl rfl rfl (by simp) cw2 (hpt _) ?_
        refine xe0 ?_
        (repeat (first | refine W.seq ?_ | refine W.block ?_))
        refine W.ak ah 0 (by decide) ?_
        refine aj 2 QG ?_
        refine au rfl rfl rfl rfl rfl (by simp) cw1 (dI _) ?_
        refine xe0 ?_
        refine W.go ?_
        refine W.ret ⟨by rfl, .inr rfl, ?_⟩
        simp only [Tryz.f16, bE, aD, toT, fin, exb, simprocAttr, Option.map_some]
   intro h4
   simp only [decide_eq_false_iff_not] at h4
   refine W.go ?_
   refine W.cond rfl ?_ ?_
   ·skip
    intro h
    simp only [decide_eq_true_eq] at h
    subst h
    have hcl := uo p.classes [.sl (bJ p.main), .str inn, .str ret, .sl (env.map bC)] nm hlen9
    cases hc : p.classes.any (oQ nm) with
    | false =>
      rw [hc] at hcl
      rw [show bN _ _ _ _ _ _ = none from by simp [bN, hc]]
      (repeat (first | refine W.seq ?_ | refine W.block ?_))
      refine W.iZ (base := 0) (ch := dJ) ah 4 (by decide) rfl ?_
      refine xs0 3 ?_
      refine au rfl rfl rfl rfl rfl (by simp) cw2 (hcl _) ?_
      refine xe0 ?_
      exact ⟨_, dS rfl rfl rfl rfl (by simp) cw1 (eG _), by rfl, rfl⟩
    | true =>
      rw [hc] at hcl
      rw [show bN _ _ _ _ _ _ = some nm from by simp [bN, hc]]
      (repeat (first | refine W.seq ?_ | refine W.block ?_))
      refine W.ak ah 0 (by decide) ?_
      refine xs0 3 ?_
      refine au rfl rfl rfl rfl rfl (by simp) cw2 (hcl _) ?_
      refine xs0 0 ?_
      refine au rfl rfl rfl rfl rfl (by simp) cw1 (dI _) ?_
      refine xe0 ?_
      refine W.go ?_
      refine W.ret ⟨by rfl, .inr rfl, ?_⟩
      simp only [Tryz.f16, bE, aD, toT, fin, exb, simprocAttr, Option.map_some]
   intro h5
   simp only [decide_eq_false_iff_not] at h5
   refine W.go ?_
   refine W.cond rfl ?_ ?_
   ·skip
    intro h
    simp only [decide_eq_true_eq] at h
    subst h
    cases hw : kN ts [bD] with
    | true =>
      have hwt : ∀ m, COk Tryz.prog 33 [.c (.sl (([bD]).map cStr)), .rptr [.sl (ts.map cStr)]] m (.tup []) := fun m => by have := d9 [bD] ts htl9 m; rw [hw] at this; exact this
      (repeat (first | refine W.seq ?_ | refine W.block ?_))
      refine W.ak ah 0 (by decide) ?_
      refine xs0 2 ?_
      refine bg rfl rfl rfl rfl rfl qo (aB aV (aB (bX rfl rfl) bf)) (by rfl) (by rfl) hwt ?_
      refine xe0 ?_
      refine W.go ?_
      rw [show bN _ _ _ _ _ _ = _ from by simp [bN, hw]; rfl]
      refine W.ret ⟨by rfl, .inr rfl, ?_⟩
      simp only [Tryz.f16, bE, aD, toT, fin, exb, simprocAttr, Option.map_some]
    | false =>
      have hwt : ∀ m, XOk Tryz.prog 33 [.c (.sl (([bD]).map cStr)), .rptr [.sl (ts.map cStr)]] m dJ := fun m => by have := d9 [bD] ts htl9 m; rw [hw] at this; exact this
      rw [show bN _ _ _ _ _ _ = none from by simp [bN, hw]]
      (repeat (first | refine W.seq ?_ | refine W.block ?_))
      refine W.iZ (base := 0) (ch := dJ) ah 2 (by decide) rfl ?_
      refine xe0 ?_
      exact ⟨_, iY rfl rfl rfl rfl qo (aB aV (aB (bX rfl rfl) bf)) hwt, by rfl, rfl⟩
   intro h6
   simp only [decide_eq_false_iff_not] at h6
   refine W.go ?_
   refine W.cond rfl ?_ ?_
   ·skip
    intro h
    simp only [decide_eq_true_eq] at h
    subst h
    have k1 := k7 rfl
    obtain ⟨t0, rfl⟩ : ∃ t0, ts = [t0] := List.length_eq_one_iff.1 (by omega)
    have hf := E.Ho p 0 t0 hS hlen9 (fun _ => hlen) hchk
    have hpk := BQ (gT 0 p.classes t0) nm (FT hS hlen t0)
    cases hp : jF (gT 0 p.classes t0) nm with
    | none =>
      have hpx : ∀ m, XOk Tryz.prog 35 [.c (.sl ((gT 0 p.classes t0).map bC)), .c (.str nm)] m dJ := fun m => by have := hpk m; rw [hp] at this; exact this
      rw [show bN _ _ _ _ _ _ = none from by simp [bN, hp, hdT]]
      (repeat (first | refine W.seq ?_ | refine W.block ?_))
      refine W.sj (base := 0) (ch := dJ) ah 10 [87, 89, 1000000] aF (by kernel_rfl) (by decide) rfl ?_
      refine aj 7 xV ?_
      refine au rfl rfl rfl rfl rfl (by simp) cw2 (hf _) ?_
      refine xe0 ?_
      intro st' hs hm
      refine ⟨_, dS rfl rfl rfl rfl qh (bZ (.inl (hs 87 (by decide)).symm) (bZ (.inl (hs 89 (by decide)).symm) iR)) (hpx _), ?_, rfl⟩
      show dfs (st'.s 1000000) = []
      rw [hs 1000000 (by decide)]; rfl
    | some t =>
      have hpt : ∀ m, COk Tryz.prog 35 [.c (.sl ((gT 0 p.classes t0).map bC)), .c (.str nm)] m (.c (.str t)) := fun m => by have := hpk m; rw [hp] at this; exact this
      rw [show bN _ _ _ _ _ _ = some t from by simp [bN, hp, hdT]]
      (repeat (first | refine W.seq ?_ | refine W.block ?_))
      refine W.bM ah 0 aF (by kernel_rfl) (by decide) ?_
      refine aj 7 xV ?_
      refine au rfl rfl rfl rfl rfl (by simp) cw2 (hf _) ?_
      refine xs0 2 ?_
      refine au rfl rfl rfl rfl rfl (by simp) cw2 (hpt _) ?_
      refine xe0 ?_
      refine W.go ?_
      refine W.ret ⟨by rfl, .inr rfl, ?_⟩
      simp only [Tryz.f16, bE, aD, toT, fin, exb, simprocAttr, Option.map_some]
   intro h7
   simp only [decide_eq_false_iff_not] at h7
   refine W.go ?_
   refine W.cond rfl ?_ ?_
   ·skip
    intro h
    simp only [decide_eq_true_eq] at h
    subst h
    cases hw : kN ts [iX, bD] with
    | true =>
      have hwt : ∀ m, COk Tryz.prog 33 [.c (.sl (([iX, bD]).map cStr)), .rptr [.sl (ts.map cStr)]] m (.tup []) := fun m => by have := d9 [iX, bD] ts htl9 m; rw [hw] at this; exact this
      (repeat (first | refine W.seq ?_ | refine W.block ?_))
      refine W.ak ah 0 (by decide) ?_
      refine xs0 2 ?_
      refine bg rfl rfl rfl rfl rfl qo (aB aV (aB (bX rfl rfl) bf)) (by rfl) (by rfl) hwt ?_
      refine xe0 ?_
      refine W.go ?_
      rw [show bN _ _ _ _ _ _ = _ from by simp [bN, hw]; rfl]
      refine W.ret ⟨by rfl, .inr rfl, ?_⟩
      simp only [Tryz.f16, bE, aD, toT, fin, exb, simprocAttr, Option.map_some]
    | false =>
      have hwt : ∀ m, XOk Tryz.prog 33 [.c (.sl (([iX, bD]).map cStr)), .rptr [.sl (ts.map cStr)]] m dJ := fun m => by have := d9 [iX, bD] ts htl9 m; rw [hw] at this; exact this
      rw [show bN _ _ _ _ _ _ = none from by simp [bN, hw]]
      (repeat (first | refine W.seq ?_ | refine W.block ?_))
      refine W.iZ (base := 0) (ch := dJ) ah 2 (by decide) rfl ?_
      refine xe0 ?_
      exact ⟨_, iY rfl rfl rfl rfl qo (aB aV (aB (bX rfl rfl) bf)) hwt, by rfl, rfl⟩
   intro h8
   simp only [decide_eq_false_iff_not] at h8
   refine W.go ?_
   refine W.cond rfl ?_ ?_
   ·skip
    intro h
    simp only [decide_eq_true_eq] at h
    subst h
    cases hw : kN ts [iX] with
    | true =>
      have hwt : ∀ m, COk Tryz.prog 33 [.c (.sl (([iX]).map cStr)), .rptr [.sl (ts.map cStr)]] m (.tup []) := fun m => by have := d9 [iX] ts htl9 m; rw [hw] at this; exact this
      (repeat (first | refine W.seq ?_ | refine W.block ?_))
      refine W.ak ah 0 (by decide) ?_
      refine xs0 2 ?_
      refine bg rfl rfl rfl rfl rfl qo (aB aV (aB (bX rfl rfl) bf)) (by rfl) (by rfl) hwt ?_
      refine xe0 ?_
      refine W.go ?_
      rw [show bN _ _ _ _ _ _ = _ from by simp [bN, hw]; rfl]
      refine W.ret ⟨by rfl, .inr rfl, ?_⟩
      simp only [Tryz.f16, bE, aD, toT, fin, exb, simprocAttr, Option.map_some]
    | false =>
      have hwt : ∀ m, XOk Tryz.prog 33 [.c (.sl (([iX]).map cStr)), .rptr [.sl (ts.map cStr)]] m dJ := fun m => by have := d9 [iX] ts htl9 m; rw [hw] at this; exact this
      rw [show bN _ _ _ _ _ _ = none from by simp [bN, hw]]
      (repeat (first | refine W.seq ?_ | refine W.block ?_))
      refine W.iZ (base := 0) (ch := dJ) ah 2 (by decide) rfl ?_
      refine xe0 ?_
      exact ⟨_, iY rfl rfl rfl rfl qo (aB aV (aB (bX rfl rfl) bf)) hwt, by rfl, rfl⟩
   intro h9
   simp only [decide_eq_false_iff_not] at h9
   refine W.go ?_
   refine W.cond rfl ?_ ?_
   ·skip
    intro h
    simp only [decide_eq_true_eq] at h
    subst h
    have k1 := k10 rfl
    obtain ⟨t0, tr, rfl⟩ : ∃ t0 tr, ts = t0 :: tr := by
     have h2 : 1 ≤ ts.length := by omega
     match ts, h2 with
     | t0 :: tr, _ => exact ⟨t0, tr, rfl⟩
    have hmm := Gi p 0 t0 nm hS hB hlen9 hchk
    cases hmt : fM 0 p.classes t0 nm with
    | none =>
      rw [hmt] at hmm
      rw [show bN _ _ _ _ _ _ = none from by simp [bN, hmt, hdT]]
      (repeat (first | refine W.seq ?_ | refine W.block ?_))
      refine W.bM ah 0 aF (by kernel_rfl) (by decide) ?_
      refine aj 9 xV ?_
      refine au rfl rfl rfl rfl rfl (by simp) cw3 (hmm _) ?_
      refine aA Sw ?_
      (repeat (first | refine W.seq ?_ | refine W.block ?_))
      refine W.sj (base := 0) (ch := dJ) ah 9 [125, 1000000] aF (by kernel_rfl) (by decide) rfl ?_
      refine xe0 ?_
      intro st' hs hm
      refine ⟨_, dS rfl rfl rfl rfl qh (bZ (.inl (hs 125 (by decide)).symm) iR) (eG _), ?_, rfl⟩
      show dfs (st'.s 1000000) = []
      rw [hs 1000000 (by decide)]; rfl
    | some res =>
      obtain ⟨⟨mt, mn, mps, mb⟩, cn⟩ := res
      rw [hmt] at hmm
      (repeat (first | refine W.seq ?_ | refine W.block ?_))
      refine W.bM ah 0 aF (by kernel_rfl) (by decide) ?_
      refine aj 9 xV ?_
      refine au rfl rfl rfl rfl rfl (by simp) cw3 (hmm _) ?_
      refine aA Sw ?_
      (repeat (first | refine W.seq ?_ | refine W.block ?_))
      have htr : tr.length ≤ 1000000000 := by simp only [List.length_cons] at htl9; omega
      have hc1 : (tr.length ≤ tr.length ∧ (False ∨ ∀ (x : List C), x ∈ cStr t0 :: List.map cStr tr → x.length = 1)) = True := eq_true ⟨Nat.le_refl _, .inr fun x hx => by
       rcases List.mem_cons.1 hx with rfl | hx
       ·rfl
       ·obtain ⟨y, -, rfl⟩ := List.mem_map.1 hx; rfl⟩
      have hc2 : (tr.map cStr).take tr.length = tr.map cStr := List.take_of_length_le (by simp)
      refine W.KD 5 0 18 rfl rfl rfl (by decide) (ku hkeep) ?_
      refine W.weaken (st' := ⟨upd (upd (upd (upd (fun _ => .top) 2 (.ptr 2 0)) 5 (.ptr 5 0)) 10 (.ptr 10 0)) 12 (.c (.bool true)), upd (upd (upd Mem.nil 2 (some (.box 51 [.rptr (ckC p.classes p.main inn ret env)]))) 5 (some (.box 55 [.c (.sl ((t0 :: tr).map cStr))]))) 10 (some (.box 44 [.c (.str mt), .c (.str mn), .c (.sl (mps.map bC)), .c (.sl (bJ mb))]))⟩) ?le ?_
      case le =>
       exact nA (aI hkeep)
      cases he : qd p.classes tr mps with
      | false =>
        rw [show bN _ _ _ _ _ _ = none from by simp [bN, hmt, hdT, he]]
        refine W.sj (base := 0) (ch := dJ) X.ah 9 [125, 1000000] aF (by kernel_rfl) (by decide) rfl ?_
        refine aj 7 SY ?_
        refine aJ (D := []) rfl rfl rfl rfl rfl (fun j hj => by simp at hj) (by simp) cw3 (Eo p inn ret env hlen9 hchk tr mps htr _ rfl (fun d => by simp only [av, qx]; repeat (rw [if_neg (by omega)]))) ?_
        simp only [bQ, dw, iO]
        rw [he]
        refine xe0 ?_
        intro st' hs hm
        refine ⟨_, dS rfl rfl rfl rfl qh (bZ (.inl (hs 125 (by decide)).symm) iR) (eG _), ?_, rfl⟩
        show dfs (st'.s 1000000) = []
        rw [hs 1000000 (by decide)]; rfl
      | true =>
        rw [show bN _ _ _ _ _ _ = some mt from by simp [bN, hmt, hdT, he]]
        refine W.bM X.ah 0 aF (by kernel_rfl) (by decide) ?_
        refine aj 7 SY ?_
        refine aJ (D := []) rfl rfl rfl rfl rfl (fun j hj => by simp at hj) (by simp) cw3 (Eo p inn ret env hlen9 hchk tr mps htr _ rfl (fun d => by simp only [av, qx]; repeat (rw [if_neg (by omega)]))) ?_
        simp only [bQ, dw, iO]
        rw [he]
        refine xs0 1 ?_
        refine au rfl rfl rfl rfl rfl (by simp) cw1 (dI _) ?_
        refine xe0 ?_
        refine W.go ?_
        refine W.ret ⟨by rfl, .inr rfl, ?_⟩
        simp only [Tryz.f16, bE, aD, toT, fin, exb, simprocAttr, Option.map_some]
   intro h10
   simp only [decide_eq_false_iff_not] at h10
   refine W.go ?_
   refine W.cond rfl ?_ ?_
   ·skip
    intro h
    simp only [decide_eq_true_eq] at h
    subst h
    cases hw : kN ts [bD] with
    | true =>
      have hwt : ∀ m, COk Tryz.prog 33 [.c (.sl (([bD]).map cStr)), .rptr [.sl (ts.map cStr)]] m (.tup []) := fun m => by have := d9 [bD] ts htl9 m; rw [hw] at this; exact this
      (repeat (first | refine W.seq ?_ | refine W.block ?_))
      refine W.ak ah 0 (by decide) ?_
      refine xs0 2 ?_
      refine bg rfl rfl rfl rfl rfl qo (aB aV (aB (bX rfl rfl) bf)) (by rfl) (by rfl) hwt ?_
      refine xe0 ?_
      refine W.go ?_
      rw [show bN _ _ _ _ _ _ = _ from by simp [bN, hw]; rfl]
      refine W.ret ⟨by rfl, .inr rfl, ?_⟩
      simp only [Tryz.f16, bE, aD, toT, fin, exb, simprocAttr, Option.map_some]
    | false =>
      have hwt : ∀ m, XOk Tryz.prog 33 [.c (.sl (([bD]).map cStr)), .rptr [.sl (ts.map cStr)]] m dJ := fun m => by have := d9 [bD] ts htl9 m; rw [hw] at this; exact this
      rw [show bN _ _ _ _ _ _ = none from by simp [bN, hw]]
      (repeat (first | refine W.seq ?_ | refine W.block ?_))
      refine W.iZ (base := 0) (ch := dJ) ah 2 (by decide) rfl ?_
      refine xe0 ?_
      exact ⟨_, iY rfl rfl rfl rfl qo (aB aV (aB (bX rfl rfl) bf)) hwt, by rfl, rfl⟩
   intro h12
   simp only [decide_eq_false_iff_not] at h12
   refine W.go ?_
   refine W.cond rfl ?_ ?_
   ·skip
    intro h
    simp only [decide_eq_true_eq] at h
    subst h
    refine W.go ?_
    refine W.cond rfl (fun _ => ?_) (fun h => absurd h (by decide))
    cases hw : kN ts [bD, bD] with
    | true =>
      have hwt : ∀ m, COk Tryz.prog 33 [.c (.sl (([bD, bD]).map cStr)), .rptr [.sl (ts.map cStr)]] m (.tup []) := fun m => by have := d9 [bD, bD] ts htl9 m; rw [hw] at this; exact this
      (repeat (first | refine W.seq ?_ | refine W.block ?_))
      refine W.ak ah 0 (by decide) ?_
      refine xs0 2 ?_
      refine bg rfl rfl rfl rfl rfl qo (aB aV (aB (bX rfl rfl) bf)) (by rfl) (by rfl) hwt ?_
      refine xe0 ?_
      refine W.go ?_
      rw [show bN _ _ _ _ _ _ = _ from by simp [bN, hw]; rfl]
      refine W.ret ⟨by rfl, .inr rfl, ?_⟩
      simp only [Tryz.f16, bE, aD, toT, fin, exb, simprocAttr, Option.map_some]
    | false =>
      have hwt : ∀ m, XOk Tryz.prog 33 [.c (.sl (([bD, bD]).map cStr)), .rptr [.sl (ts.map cStr)]] m dJ := fun m => by have := d9 [bD, bD] ts htl9 m; rw [hw] at this; exact this
      rw [show bN _ _ _ _ _ _ = none from by simp [bN, hw]]
      (repeat (first | refine W.seq ?_ | refine W.block ?_))
      refine W.iZ (base := 0) (ch := dJ) ah 2 (by decide) rfl ?_
      refine xe0 ?_
      exact ⟨_, iY rfl rfl rfl rfl qo (aB aV (aB (bX rfl rfl) bf)) hwt, by rfl, rfl⟩
   intro h13
   simp only [decide_eq_false_iff_not] at h13
   refine W.go ?_
   refine W.cond rfl ?_ ?_
   ·skip
    intro h
    simp only [decide_eq_true_eq] at h
    subst h
    refine W.go ?_
    refine W.cond rfl (fun _ => ?_) (fun h => absurd h (by decide))
    cases hw : kN ts [bD, bD] with
    | true =>
      have hwt : ∀ m, COk Tryz.prog 33 [.c (.sl (([bD, bD]).map cStr)), .rptr [.sl (ts.map cStr)]] m (.tup []) := fun m => by have := d9 [bD, bD] ts htl9 m; rw [hw] at this; exact this
      (repeat (first | refine W.seq ?_ | refine W.block ?_))
      refine W.ak ah 0 (by decide) ?_
      refine xs0 2 ?_
      refine bg rfl rfl rfl rfl rfl qo (aB aV (aB (bX rfl rfl) bf)) (by rfl) (by rfl) hwt ?_
      refine xe0 ?_
      refine W.go ?_
      rw [show bN _ _ _ _ _ _ = _ from by simp [bN, hw]; rfl]
      refine W.ret ⟨by rfl, .inr rfl, ?_⟩
      simp only [Tryz.f16, bE, aD, toT, fin, exb, simprocAttr, Option.map_some]
    | false =>
      have hwt : ∀ m, XOk Tryz.prog 33 [.c (.sl (([bD, bD]).map cStr)), .rptr [.sl (ts.map cStr)]] m dJ := fun m => by have := d9 [bD, bD] ts htl9 m; rw [hw] at this; exact this
      rw [show bN _ _ _ _ _ _ = none from by simp [bN, hw]]
      (repeat (first | refine W.seq ?_ | refine W.block ?_))
      refine W.iZ (base := 0) (ch := dJ) ah 2 (by decide) rfl ?_
      refine xe0 ?_
      exact ⟨_, iY rfl rfl rfl rfl qo (aB aV (aB (bX rfl rfl) bf)) hwt, by rfl, rfl⟩
   intro h14
   simp only [decide_eq_false_iff_not] at h14
   refine W.go ?_
   refine W.cond rfl ?_ ?_
   ·skip
    intro h
    simp only [decide_eq_true_eq] at h
    subst h
    refine W.go ?_
    refine W.cond rfl (fun _ => ?_) (fun h => absurd h (by decide))
    cases hw : kN ts [bD, bD] with
    | true =>
      have hwt : ∀ m, COk Tryz.prog 33 [.c (.sl (([bD, bD]).map cStr)), .rptr [.sl (ts.map cStr)]] m (.tup []) := fun m => by have := d9 [bD, bD] ts htl9 m; rw [hw] at this; exact this
      (repeat (first | refine W.seq ?_ | refine W.block ?_))
      refine W.ak ah 0 (by decide) ?_
      refine xs0 2 ?_
      refine bg rfl rfl rfl rfl rfl qo (aB aV (aB (bX rfl rfl) bf)) (by rfl) (by rfl) hwt ?_
      refine xe0 ?_
      refine W.go ?_
      rw [show bN _ _ _ _ _ _ = _ from by simp [bN, hw]; rfl]
      refine W.ret ⟨by rfl, .inr rfl, ?_⟩
      simp only [Tryz.f16, bE, aD, toT, fin, exb, simprocAttr, Option.map_some]
    | false =>
      have hwt : ∀ m, XOk Tryz.prog 33 [.c (.sl (([bD, bD]).map cStr)), .rptr [.sl (ts.map cStr)]] m dJ := fun m => by have := d9 [bD, bD] ts htl9 m; rw [hw] at this; exact this
      rw [show bN _ _ _ _ _ _ = none from by simp [bN, hw]]
      (repeat (first | refine W.seq ?_ | refine W.block ?_))
      refine W.iZ (base := 0) (ch := dJ) ah 2 (by decide) rfl ?_
      refine xe0 ?_
      exact ⟨_, iY rfl rfl rfl rfl qo (aB aV (aB (bX rfl rfl) bf)) hwt, by rfl, rfl⟩
   intro h15
   simp only [decide_eq_false_iff_not] at h15
   refine W.go ?_
   refine W.cond rfl ?_ ?_
   ·skip
    intro h
    simp only [decide_eq_true_eq] at h
    subst h
    refine W.go ?_
    refine W.cond rfl (fun _ => ?_) (fun h => absurd h (by decide))
    cases hw : kN ts [bD, bD] with
    | true =>
      have hwt : ∀ m, COk Tryz.prog 33 [.c (.sl (([bD, bD]).map cStr)), .rptr [.sl (ts.map cStr)]] m (.tup []) := fun m => by have := d9 [bD, bD] ts htl9 m; rw [hw] at this; exact this
      (repeat (first | refine W.seq ?_ | refine W.block ?_))
      refine W.ak ah 0 (by decide) ?_
      refine xs0 2 ?_
      refine bg rfl rfl rfl rfl rfl qo (aB aV (aB (bX rfl rfl) bf)) (by rfl) (by rfl) hwt ?_
      refine xe0 ?_
      refine W.go ?_
      rw [show bN _ _ _ _ _ _ = _ from by simp [bN, hw]; rfl]
      refine W.ret ⟨by rfl, .inr rfl, ?_⟩
      simp only [Tryz.f16, bE, aD, toT, fin, exb, simprocAttr, Option.map_some]
    | false =>
      have hwt : ∀ m, XOk Tryz.prog 33 [.c (.sl (([bD, bD]).map cStr)), .rptr [.sl (ts.map cStr)]] m dJ := fun m => by have := d9 [bD, bD] ts htl9 m; rw [hw] at this; exact this
      rw [show bN _ _ _ _ _ _ = none from by simp [bN, hw]]
      (repeat (first | refine W.seq ?_ | refine W.block ?_))
      refine W.iZ (base := 0) (ch := dJ) ah 2 (by decide) rfl ?_
      refine xe0 ?_
      exact ⟨_, iY rfl rfl rfl rfl qo (aB aV (aB (bX rfl rfl) bf)) hwt, by rfl, rfl⟩
   intro h16
   simp only [decide_eq_false_iff_not] at h16
   refine W.go ?_
   refine W.cond rfl ?_ ?_
   ·skip
    intro h
    simp only [decide_eq_true_eq] at h
    subst h
    cases hw : kN ts [bD, bD] with
    | true =>
      have hwt : ∀ m, COk Tryz.prog 33 [.c (.sl (([bD, bD]).map cStr)), .rptr [.sl (ts.map cStr)]] m (.tup []) := fun m => by have := d9 [bD, bD] ts htl9 m; rw [hw] at this; exact this
      (repeat (first | refine W.seq ?_ | refine W.block ?_))
      refine W.ak ah 0 (by decide) ?_
      refine xs0 2 ?_
      refine bg rfl rfl rfl rfl rfl qo (aB aV (aB (bX rfl rfl) bf)) (by rfl) (by rfl) hwt ?_
      refine xe0 ?_
      refine W.go ?_
      rw [show bN _ _ _ _ _ _ = _ from by simp [bN, hw]; rfl]
      refine W.ret ⟨by rfl, .inr rfl, ?_⟩
      simp only [Tryz.f16, bE, aD, toT, fin, exb, simprocAttr, Option.map_some]
    | false =>
      have hwt : ∀ m, XOk Tryz.prog 33 [.c (.sl (([bD, bD]).map cStr)), .rptr [.sl (ts.map cStr)]] m dJ := fun m => by have := d9 [bD, bD] ts htl9 m; rw [hw] at this; exact this
      rw [show bN _ _ _ _ _ _ = none from by simp [bN, hw]]
      (repeat (first | refine W.seq ?_ | refine W.block ?_))
      refine W.iZ (base := 0) (ch := dJ) ah 2 (by decide) rfl ?_
      refine xe0 ?_
      exact ⟨_, iY rfl rfl rfl rfl qo (aB aV (aB (bX rfl rfl) bf)) hwt, by rfl, rfl⟩
   intro h17
   simp only [decide_eq_false_iff_not] at h17
   refine W.go ?_
   refine W.cond rfl ?_ ?_
   ·skip
    intro h
    simp only [decide_eq_true_eq] at h
    subst h
    have k2 := k18 rfl
    obtain ⟨a, b, rfl⟩ : ∃ a b, ts = [a, b] := by
     have h2 : ts.length = 2 := by omega
     match ts, h2 with
     | [a, b], _ => exact ⟨a, b, rfl⟩
    have hfa := fun m => y7 p 0 [.str inn, .str ret, .sl (env.map bC)] a b hlen9 hchk m
    have hfb := fun m => y7 p 0 [.str inn, .str ret, .sl (env.map bC)] b a hlen9 hchk m
    (repeat (first | refine W.seq ?_ | refine W.block ?_))
    refine W.bM ah 0 aF (by kernel_rfl) (by decide) ?_
    refine xe0 ?_
    (repeat (first | refine W.seq ?_ | refine W.block ?_))
    cases ai : isT a bD with
    | true =>
      cases bi : isT b bD with
      | true =>
        rw [show bN _ _ _ _ _ _ = some bD from by simp [bN, kE, hdT, ai, bi]]
        unfold isT at ai bi
        refine W.ak ah 0 (by decide) ?_
        refine aj 34 NZ ?_
        refine au rfl rfl rfl rfl rfl (by simp) cw1 (dI _) ?_
        refine xe0 ?_
        refine W.go ?_
        refine W.ret ⟨by rfl, .inr rfl, ?_⟩
        simp only [Tryz.f16, bE, aD, toT, fin, exb, simprocAttr, Option.map_some]
      | false =>
        rw [show bN _ _ _ _ _ _ = none from by simp [bN, kE, hdT, ai, bi]]
        unfold isT at ai bi
        refine W.iZ (base := 0) (ch := dJ) ah 34 (by decide) rfl ?_
        refine aA NZ ?_
        exact ⟨_, dS rfl rfl rfl rfl (by simp) cw1 (eG _), by rfl, rfl⟩
    | false =>
      cases bi : isT b bD with
      | true =>
        rw [show bN _ _ _ _ _ _ = none from by simp [bN, kE, hdT, ai, bi]]
        unfold isT at ai bi
        refine W.iZ (base := 0) (ch := dJ) ah 34 (by decide) rfl ?_
        refine aA NZ ?_
        exact ⟨_, dS rfl rfl rfl rfl (by simp) cw1 (eG _), by rfl, rfl⟩
      | false =>
        cases an : isT a jR with
        | true =>
          cases bn : isT b jR with
          | true =>
            rw [show bN _ _ _ _ _ _ = some bD from by simp [bN, kE, hdT, ai, bi, an, bn]]
            unfold isT at ai bi an bn
            refine W.ak ah 0 (by decide) ?_
            refine aj 34 lN ?_
            refine au rfl rfl rfl rfl rfl (by simp) cw1 (dI _) ?_
            refine xe0 ?_
            refine W.go ?_
            refine W.ret ⟨by rfl, .inr rfl, ?_⟩
            simp only [Tryz.f16, bE, aD, toT, fin, exb, simprocAttr, Option.map_some]
          | false =>
            cases fa : kr 0 p.classes a b with
            | true =>
              rw [fa] at hfa
              rw [show bN _ _ _ _ _ _ = some bD from by simp [bN, kE, hdT, ai, bi, fa, an, bn]]
              unfold isT at ai bi an bn
              refine W.ak ah 0 (by decide) ?_
              refine aj 24 lN ?_
              refine au rfl rfl rfl rfl rfl (by simp) cw3 (hfa _) ?_
              refine aj 9 lN ?_
              refine au rfl rfl rfl rfl rfl (by simp) cw1 (dI _) ?_
              refine xe0 ?_
              refine W.go ?_
              refine W.ret ⟨by rfl, .inr rfl, ?_⟩
              simp only [Tryz.f16, bE, aD, toT, fin, exb, simprocAttr, Option.map_some]
            | false =>
              rw [fa] at hfa
              cases fb : kr 0 p.classes b a with
              | true =>
                rw [fb] at hfb
                rw [show bN _ _ _ _ _ _ = some bD from by simp [bN, kE, hdT, ai, bi, fa, fb, an, bn]]
                unfold isT at ai bi an bn
                refine W.ak ah 0 (by decide) ?_
                refine aj 24 lN ?_
                refine au rfl rfl rfl rfl rfl (by simp) cw3 (hfa _) ?_
                refine aj 5 lN ?_
                refine au rfl rfl rfl rfl rfl (by simp) cw3 (hfb _) ?_
                refine aj 3 lN ?_
                refine au rfl rfl rfl rfl rfl (by simp) cw1 (dI _) ?_
                refine xe0 ?_
                refine W.go ?_
                refine W.ret ⟨by rfl, .inr rfl, ?_⟩
                simp only [Tryz.f16, bE, aD, toT, fin, exb, simprocAttr, Option.map_some]
              | false =>
                rw [fb] at hfb
                rw [show bN _ _ _ _ _ _ = none from by simp [bN, kE, hdT, ai, bi, fa, fb, an, bn]]
                unfold isT at ai bi an bn
                refine W.iZ (base := 0) (ch := dJ) ah 34 (by decide) rfl ?_
                refine aj 24 lN ?_
                refine au rfl rfl rfl rfl rfl (by simp) cw3 (hfa _) ?_
                refine aj 5 lN ?_
                refine au rfl rfl rfl rfl rfl (by simp) cw3 (hfb _) ?_
                refine aA lN ?_
                exact ⟨_, dS rfl rfl rfl rfl (by simp) cw1 (eG _), by rfl, rfl⟩
        | false =>
          cases bn : isT b jR with
          | true =>
            cases fa : kr 0 p.classes a b with
            | true =>
              rw [fa] at hfa
              rw [show bN _ _ _ _ _ _ = some bD from by simp [bN, kE, hdT, ai, bi, fa, an, bn]]
              unfold isT at ai bi an bn
              refine W.ak ah 0 (by decide) ?_
              refine aj 24 lN ?_
              refine au rfl rfl rfl rfl rfl (by simp) cw3 (hfa _) ?_
              refine aj 9 lN ?_
              refine au rfl rfl rfl rfl rfl (by simp) cw1 (dI _) ?_
              refine xe0 ?_
              refine W.go ?_
              refine W.ret ⟨by rfl, .inr rfl, ?_⟩
              simp only [Tryz.f16, bE, aD, toT, fin, exb, simprocAttr, Option.map_some]
            | false =>
              rw [fa] at hfa
              cases fb : kr 0 p.classes b a with
              | true =>
                rw [fb] at hfb
                rw [show bN _ _ _ _ _ _ = some bD from by simp [bN, kE, hdT, ai, bi, fa, fb, an, bn]]
                unfold isT at ai bi an bn
                refine W.ak ah 0 (by decide) ?_
                refine aj 24 lN ?_
                refine au rfl rfl rfl rfl rfl (by simp) cw3 (hfa _) ?_
                refine aj 5 lN ?_
                refine au rfl rfl rfl rfl rfl (by simp) cw3 (hfb _) ?_
                refine aj 3 lN ?_
                refine au rfl rfl rfl rfl rfl (by simp) cw1 (dI _) ?_
                refine xe0 ?_
                refine W.go ?_
                refine W.ret ⟨by rfl, .inr rfl, ?_⟩
                simp only [Tryz.f16, bE, aD, toT, fin, exb, simprocAttr, Option.map_some]
              | false =>
                rw [fb] at hfb
                rw [show bN _ _ _ _ _ _ = none from by simp [bN, kE, hdT, ai, bi, fa, fb, an, bn]]
                unfold isT at ai bi an bn
                refine W.iZ (base := 0) (ch := dJ) ah 34 (by decide) rfl ?_
                refine aj 24 lN ?_
                refine au rfl rfl rfl rfl rfl (by simp) cw3 (hfa _) ?_
                refine aj 5 lN ?_
                refine au rfl rfl rfl rfl rfl (by simp) cw3 (hfb _) ?_
                refine aA lN ?_
                exact ⟨_, dS rfl rfl rfl rfl (by simp) cw1 (eG _), by rfl, rfl⟩
          | false =>
            cases fa : kr 0 p.classes a b with
            | true =>
              rw [fa] at hfa
              rw [show bN _ _ _ _ _ _ = some bD from by simp [bN, kE, hdT, ai, bi, fa, an, bn]]
              unfold isT at ai bi an bn
              refine W.ak ah 0 (by decide) ?_
              refine aj 24 lN ?_
              refine au rfl rfl rfl rfl rfl (by simp) cw3 (hfa _) ?_
              refine aj 9 lN ?_
              refine au rfl rfl rfl rfl rfl (by simp) cw1 (dI _) ?_
              refine xe0 ?_
              refine W.go ?_
              refine W.ret ⟨by rfl, .inr rfl, ?_⟩
              simp only [Tryz.f16, bE, aD, toT, fin, exb, simprocAttr, Option.map_some]
            | false =>
              rw [fa] at hfa
              cases fb : kr 0 p.classes b a with
              | true =>
                rw [fb] at hfb
                rw [show bN _ _ _ _ _ _ = some bD from by simp [bN, kE, hdT, ai, bi, fa, fb, an, bn]]
                unfold isT at ai bi an bn
                refine W.ak ah 0 (by decide) ?_
                refine aj 24 lN ?_
                refine au rfl rfl rfl rfl rfl (by simp) cw3 (hfa _) ?_
                refine aj 5 lN ?_
                refine au rfl rfl rfl rfl rfl (by simp) cw3 (hfb _) ?_
                refine aj 3 lN ?_
                refine au rfl rfl rfl rfl rfl (by simp) cw1 (dI _) ?_
                refine xe0 ?_
                refine W.go ?_
                refine W.ret ⟨by rfl, .inr rfl, ?_⟩
                simp only [Tryz.f16, bE, aD, toT, fin, exb, simprocAttr, Option.map_some]
              | false =>
                rw [fb] at hfb
                rw [show bN _ _ _ _ _ _ = none from by simp [bN, kE, hdT, ai, bi, fa, fb, an, bn]]
                unfold isT at ai bi an bn
                refine W.iZ (base := 0) (ch := dJ) ah 34 (by decide) rfl ?_
                refine aj 24 lN ?_
                refine au rfl rfl rfl rfl rfl (by simp) cw3 (hfa _) ?_
                refine aj 5 lN ?_
                refine au rfl rfl rfl rfl rfl (by simp) cw3 (hfb _) ?_
                refine aA lN ?_
                exact ⟨_, dS rfl rfl rfl rfl (by simp) cw1 (eG _), by rfl, rfl⟩
   intro h18
   simp only [decide_eq_false_iff_not] at h18
   rw [show bN _ _ _ _ _ _ = some bD from by simp [bN, h2, h3, h4, h5, h6, h7, h8, h9, h10, h12, h13, h14, h15, h16, h17, h18]]
   refine W.go ?_
   refine W.ret ⟨by rfl, .inr rfl, ?_⟩
   simp only [Tryz.f16, bE, aD, toT, fin, exb, simprocAttr, Option.map_some]
end
end V
end Go.Proofs.YthhpcjoaogmhbaaGreatDoor
end
