/- Joined by my own program, in build order: Ask, Ask2, RA, RB, Jn, Meet, Vs, Vtree, Vpor, Vpan, Vpan2, Cfn, Vu, Vw, VUp, Vran, Ccls, Cchk, Vy, Vz, Plain, Plain2, Chks, Order, Fit7, GrowS, Cfld, Cexp, Cfld2. -/
import Derived.Test.YtgaipdillmleeaaGreatX29
import Derived.Test.YtgaipdillmleeaaGreatX6
import Derived.Sort.LoopGhostIn
import Derived.Test.YtgaipdillmleeaaGreatX18
import Derived.Test.YtgaipdillmleeaaGreatX21
import Derived.Test.YtgaipdillmleeaaGreatX22
import Derived.Test.YtgaipdillmleeaaGreatX23
import Derived.Test.YtgaipdillmleeaaGreatX24
import Derived.Test.YtgaipdillmleeaaGreatX25
import Derived.Test.YtgaipdillmleeaaGreatX16
import Derived.Test.YtgaipdillmleeaaGreatX17
import Derived.Lib.Walk
import Derived.Lib.SliceRun
import Derived.Lib.AppendZerosOnto
set_option linter.unusedVariables false
set_option linter.unusedSimpArgs false
section
namespace Go.Proofs.YtgaipdillmleeaaGreat
namespace V
open Go.RowKit AS
def Im (p : Expr → Bool) (l : List Expr) : Int := match l.findIdx? p with | some i => (i : Int) | none => -1
theorem QN (p : Expr → Bool) (l : List Expr) : decide (0 ≤ Im p l) = l.any p := by
 unfold Im;cases h : l.findIdx? p with
 | none =>
   rw [List.findIdx?_eq_none_iff] at h;have : l.any p = false := by rw [List.any_eq_false]; exact fun x hx => by simp [h x hx]
   rw [this]; rfl
 | some i =>
   obtain ⟨h1, h2, -⟩ := List.findIdx?_eq_some_iff_getElem.1 h;have : l.any p = true := by rw [List.any_eq_true]; exact ⟨_, List.getElem_mem h1, h2⟩
   rw [this]; simp
set_option maxHeartbeats 2000000 in
theorem Ls (l : List Expr) (hl : l.length ≤ 1000000000000) (g q : Nat) (M : Mem) (p : Expr → Bool) (b : Nat) (hM : ∀ d, M (b + d) = none) {ty : TypeId} {cs : List A} (hq : M q = some (.box ty cs)) (hg : ∀ x ∈ l, dJ Tryz.prog g [.agg (cExpr x), .ptr q 0] M [] (.c (.bool (p x))) M) :
 dJ Tryz.prog 86 [.c (.sl (l.map cExpr)), .fn g [q]] M [] (.c (.int .i64 (Im p l))) M := by
 refine (jN ah [] Tryz.func86 (by kernel_rfl) rfl rfl (by rfl) (by rfl) ?ids ?res ?sub ?wfm (fun hWF Rr hkeep => ?_))
 case ids => intro a ha j hj; simp at ha; rcases ha with rfl | rfl <;> simp [A.ids] at hj; subst hj; simp [hq]
 case res => intro j hj; simp [A.ids] at hj
 case sub => exact fun j hj => hj
 case wfm => exact fun hw => hw
 have kept : ∀ j, Rr.keep j → (M j).isSome = true := fun j hj => by rw [hkeep] at hj; exact hj.1
 repeat (first | refine W.q ?_ | refine W.region ah b (by decide) xr0 ?_)
 refine W.loop (ι := Nat) (fun k => ⟨upd (upd (upd (upd (upd (fun _ => .top) 0 (.c (.sl (l.map cExpr)))) 1 (.fn g [q])) 6 (.c (.sl (l.map cExpr)))) 7 (.c (.int .i64 l.length))) 8 (.c (.int .i64 k)), M⟩) (fun k => k ≤ l.length ∧ ∀ i x, i < k → l[i]? = some x → p x = false) (fun k => l.length - k) 0 ?start ⟨Nat.zero_le _, fun i x h => by omega⟩ ?round
 case start =>
  refine dU ?sle ?mle ?swf ?mwf kept (by rfl)
  case swf => repeat (first | exact bP _ | refine bQ ?_ (by simp [A.ids, ak, hq]))
  case mwf => exact hWF
  case sle => repeat (first | exact aM _ | exact aH _ | refine aL ?_ Qy)
  case mle => exact dY rfl
 case round =>
  rintro k ⟨hk, hall⟩;refine zm3 ?_;refine W.cond rfl ?_ ?_
  ·intro hlt;replace hlt := dtl hlt;obtain ⟨x, hx⟩ : ∃ x, l[k]? = some x := ⟨_, List.getElem?_eq_getElem hlt⟩;have hxm := List.mem_of_getElem? hx;obtain ⟨kd, nn, nm, kids⟩ := x;have hgx := hg _ hxm;simp only [cExpr] at hgx;refine zm3 ?_;refine zm8 ?_;refine aj 5 (by simp only [exb, simprocAttr, hlt, bA hx, cExpr]; rfl) ?_;refine bW (D := []) rfl rfl rfl rfl rfl (fun j hj => by simp at hj) (fun j hj => by simp at hj; subst hj; exact ⟨_, _, by first | exact hq | (simp only [exb, simprocAttr, hlt, bA hx, cExpr] <;> rfl)⟩) cw2 hgx ?_;simp only [dw, eY, bS];refine xe0 ?_;cases hp : p ⟨kd, nn, nm, kids⟩
   ·refine W.cf rfl ?_;refine zm3 ?_;refine ⟨k + 1, ⟨hlt, fun i x hi hxi => ?_⟩, by omega, ?_⟩
    ·rcases Nat.lt_succ_iff_lt_or_eq.1 hi with h | rfl
     ·exact hall i x h hxi
     ·rw [hx] at hxi; cases hxi; exact hp
    refine dU ?sle ?mle ?swf ?mwf kept (by rfl)
    case swf => repeat (first | exact bP _ | refine bQ ?_ (by simp [A.ids, ak, hq]))
    case mwf => exact hWF
    case sle => repeat (first | exact aM _ | exact aH _ | refine aL ?_ OD)
    case mle => exact dY rfl
   ·refine jA ?_;have he : Im p l = (k : Int) := by
     unfold Im;rw [List.findIdx?_eq_some_iff_getElem.2 ⟨hlt, by
      have : l[k] = ⟨kd, nn, nm, kids⟩ := by rw [List.getElem?_eq_getElem hlt] at hx; exact Option.some.inj hx
      rw [this]; exact hp, fun j hj => by rw [hall j _ hj (List.getElem?_eq_getElem (by omega))]; simp⟩]
    exact Zw
  ·intro hge;replace hge := dnl hge;obtain rfl : k = l.length := by omega
   have he : Im p l = -1 := by
    unfold Im;rw [List.findIdx?_eq_none_iff.2 fun x hx => by
     obtain ⟨i, hi⟩ := List.getElem?_of_mem hx;exact hall i x (List.getElem?_eq_some_iff.1 hi).1 hi]
   exact Zw
theorem wL (l : List Expr) (hl : l.length ≤ 1000000000000) (g q : Nat) (M : Mem) (p : Expr → Bool) (b : Nat) (hM : ∀ d, M (b + d) = none) {ty : TypeId} {cs : List A} (hq : M q = some (.box ty cs)) (hg : ∀ x ∈ l, dJ Tryz.prog g [.agg (cExpr x), .ptr q 0] M [] (.c (.bool (p x))) M) :
 dJ Tryz.prog 51 [.c (.sl (l.map cExpr)), .fn g [q]] M [] (.c (.bool (l.any p))) M := by
 refine (jN ah [] Tryz.func51 (by kernel_rfl) rfl rfl (by rfl) (by rfl) ?ids ?res ?sub ?wfm (fun hWF Rr hkeep => ?_))
 case ids => intro a ha j hj; simp at ha; rcases ha with rfl | rfl <;> simp [A.ids] at hj; subst hj; simp [hq]
 case res => intro j hj; simp [A.ids] at hj
 case sub => exact fun j hj => hj
 case wfm => exact fun hw => hw
 repeat (first | refine W.q ?_ | refine W.region ah b (by decide) xr0 ?_)
 refine W.bR ah b (by decide) ?_
 refine xs0 2 ?_
 refine bW (D := []) rfl rfl rfl rfl rfl (fun j hj => by simp at hj) (by simp) cw2 (Ls l hl g q M p b hM hq hg) ?_
 simp only [dw, eY, bS]
 refine xe0 ?_
 refine W.ret ⟨.inr rfl, by rfl, ?_, ?mle⟩
 simp only [Tryz.f51, resE, ay, fin, toT, exb, simprocAttr]
 case mle => exact dY rfl
 rw [QN]
theorem Rb (x : Expr) (L : List Nm) (M : Mem) (b j q : Nat) (hM : ∀ d, M (b + d) = none) (hj : M j = some (.names (some L))) (hq : M q = some (.box 48 [.map j]))
 (hA : ∀ (M : Mem) (b : Nat), (∀ d, M (b + d) = none) → M j = some (.names (some L)) → dJ Tryz.prog 53 [.map j, .agg (cExpr x)] M [] (.c (.bool (kC L x))) M) : dJ Tryz.prog 87 [.agg (cExpr x), .ptr q 0] M [] (.c (.bool (!kC L x))) M := by
 have hjb : ∀ d, (j = b + d) = False := jK hM hj
 have hqb : ∀ d, (q = b + d) = False := jK hM hq
 refine (jN ah [] Tryz.func87 (by kernel_rfl) rfl rfl (by rfl) (by rfl) ?ids ?res ?sub ?wfm (fun hWF Rr hkeep => ?_))
 case ids => intro a ha j' hj'; simp at ha; rcases ha with rfl | rfl <;> simp [A.ids] at hj'; subst hj'; simp [hq]
 case res => intro j' hj'; simp [A.ids] at hj'
 case sub => exact fun j hj => hj
 case wfm => exact fun hw => hw
 obtain ⟨kd, nn, nm, kids⟩ := x
 simp only [cExpr] at hA ⊢
 have hA := hA (upd M (b + 2) (some (.box 35 [.c (.int .i64 kd), .c (.int .i64 nn), .c (.str nm), .c (.sl (pK kids))]))) (b + 8) (Ab hM (by omega)) PK
 repeat (first | refine W.q ?_ | refine W.region ah b (by decide) (aR JW) ?_)
 refine W.bR ah b (by decide) ?_
 refine aj 2 JW ?_
 refine bW (D := []) rfl rfl rfl rfl rfl (fun j hj => by simp at hj) (by simp) cw2 hA ?_
 simp only [dw, eY, bS]
 refine xe0 ?_
 refine W.ret ⟨.inr rfl, by rfl, ?_, ?mle⟩
 simp only [Tryz.f87, resE, ay, fin, toT, exb, simprocAttr]
 case mle => exact gY (dY rfl) (hM 2)
theorem Pz (x : Expr) (L : List Nm) (M : Mem) (b j q : Nat) (hM : ∀ d, M (b + d) = none) (hj : M j = some (.names (some L))) (hq : M q = some (.box 48 [.map j]))
 (hA : ∀ (M : Mem) (b : Nat), (∀ d, M (b + d) = none) → M j = some (.names (some L)) → dJ Tryz.prog 53 [.map j, .agg (cExpr x)] M [] (.c (.bool (kC L x))) M) : dJ Tryz.prog 52 [.agg (cExpr x), .ptr q 0] M [] (.c (.bool (!kC L x))) M := by
 have hjb : ∀ d, (j = b + d) = False := jK hM hj
 have hqb : ∀ d, (q = b + d) = False := jK hM hq
 refine (jN ah [] Tryz.func52 (by kernel_rfl) rfl rfl (by rfl) (by rfl) ?ids ?res ?sub ?wfm (fun hWF Rr hkeep => ?_))
 case ids => intro a ha j' hj'; simp at ha; rcases ha with rfl | rfl <;> simp [A.ids] at hj'; subst hj'; simp [hq]
 case res => intro j' hj'; simp [A.ids] at hj'
 case sub => exact fun j hj => hj
 case wfm => exact fun hw => hw
 obtain ⟨kd, nn, nm, kids⟩ := x
 simp only [cExpr] at hA ⊢
 have hA := hA (upd M (b + 2) (some (.box 35 [.c (.int .i64 kd), .c (.int .i64 nn), .c (.str nm), .c (.sl (pK kids))]))) (b + 8) (Ab hM (by omega)) PK
 repeat (first | refine W.q ?_ | refine W.region ah b (by decide) (aR JW) ?_)
 refine W.bR ah b (by decide) ?_
 refine aj 2 JW ?_
 refine bW (D := []) rfl rfl rfl rfl rfl (fun j hj => by simp at hj) (by simp) cw2 hA ?_
 simp only [dw, eY, bS]
 refine xe0 ?_
 refine W.ret ⟨.inr rfl, by rfl, ?_, ?mle⟩
 simp only [Tryz.f52, resE, ay, fin, toT, exb, simprocAttr]
 case mle => exact gY (dY rfl) (hM 2)
theorem tq (L : List Nm) : ∀ l : List Expr, gL L l = !l.any fun x => !kC L x
 | [] => rfl
 | x :: l => by simp [gL, tq L l]
theorem y9 (L : List Nm) (k n : Int) (nm : ByteArray) (kids : List Expr) : kC L ⟨k, n, nm, kids⟩ = ((!decide (k = 4) || hasB L nm) && gL L kids) := by simp only [kC]
mutual
def SmE : Expr → Prop
 | ⟨_, _, _, kids⟩ => kids.length ≤ 1048576 ∧ uI kids
def uI : List Expr → Prop
 | [] => True
 | x :: l => SmE x ∧ uI l
end
theorem uI.mem : ∀ {l : List Expr} {x : Expr}, uI l → x ∈ l → SmE x
 | y :: l, x, h, hx => by
   simp only [uI] at h;rcases List.mem_cons.1 hx with rfl | hx
   ·exact h.1
   ·exact uI.mem h.2 hx
set_option maxHeartbeats 2000000 in
theorem XL : ∀ (n : Nat) (x : Expr), SizeOf.sizeOf x ≤ n → SmE x → ∀ (L : List Nm) (j : Nat) (M : Mem) (b : Nat), (∀ d, M (b + d) = none) → M j = some (.names (some L)) → dJ Tryz.prog 53 [.map j, .agg (cExpr x)] M [] (.c (.bool (kC L x))) M := by
 intro n;induction n using Nat.strongRecOn with
 | ind n ih =>
 rintro ⟨k, nn, nm, kids⟩ hn hsm L j M b hM hj;have hjb : ∀ d, (j = b + d) = False := jK hM hj;have hjb' : ∀ d, (b + d = j) = False := nG hM hj;refine (jN ah [] Tryz.func53 (by kernel_rfl) rfl rfl (by rfl) (by rfl) ?ids ?res ?sub ?wfm (fun hWF Rr hkeep => ?_))
 case ids => intro a ha j' hj'; simp at ha; rcases ha with rfl | rfl <;> simp [A.ids] at hj'; subst hj'; simp [hj]
 case res => intro j' hj'; simp [A.ids] at hj'
 case sub => exact fun j hj => hj
 case wfm => exact fun hw => hw
 simp only [SmE] at hsm;simp only [cExpr, aX];obtain ⟨B1, hB1⟩ : ∃ o : O, o = .box 48 [.map j] := ⟨_, rfl⟩;obtain ⟨B2, hB2⟩ : ∃ o : O, o = .box 35 [.c (.int .i64 k), .c (.int .i64 nn), .c (.str nm), .c (.sl (kids.map cExpr))] := ⟨_, rfl⟩;have hM' : ∀ d, (upd (upd M (b + 2) (some B1)) (b + 3) (some B2)) (b + 20 + d) = none := fun d => by
  rw [upd_ne _ _ (by omega), upd_ne _ _ (by omega), Nat.add_assoc]; exact hM _
 have hj' : (upd (upd M (b + 2) (some B1)) (b + 3) (some B2)) j = some (.names (some L)) := by
  rw [upd_ne _ _ (fun e => cast (hjb _) e), upd_ne _ _ (fun e => cast (hjb _) e)]; exact hj
 have hq' : (upd (upd M (b + 2) (some B1)) (b + 3) (some B2)) (b + 2) = some B1 := by
  rw [upd_ne _ _ (by omega), upd_same]
 subst hB1;have con := wL kids (Nat.le_trans hsm.1 (by decide)) 87 (b + 2) _ (fun x => !kC L x) (b + 20) hM' hq' (fun x hx => Rb x L _ (b + 20) j (b + 2) hM' hj' hq' (fun M b hM hj => ih (SizeOf.sizeOf x) (by
  have h1 := List.sizeOf_lt_of_mem hx;have h2 := Expr.mk.sizeOf_spec k nn nm kids;omega) x (Nat.le_refl _) (hsm.2.mem hx) L j M b hM hj))
 subst hB2;rw [y9, tq];have h14 : ∀ x : Bool, (!decide ((4 : Int) = 4) || x) = x := fun x => by simp
 by_cases hk : k = 4
 ·subst hk;rw [h14];cases hs : hasB L nm
  ·have hm : L.contains nm.data.toList = false := hs
   repeat (first | refine W.q ?_ | refine W.region ah b (by decide) (aR ZM) ?_)
   refine jA ?_;refine zm3 ?_;exact Zn
  ·have hm : L.contains nm.data.toList = true := hs
   repeat (first | refine W.q ?_ | refine W.region ah b (by decide) (aR ZM) ?_)
   refine W.cf rfl ?_;refine zm3 ?_;refine zm8 ?_;refine Q9 ?_;simp only [dw, eY, bS];refine xe0 ?_;refine W.ret ⟨.inr rfl, by rfl, ?_, ?mle⟩;simp only [Tryz.f53, resE, ay, fin, toT, exb, simprocAttr]
   case mle => exact gY (gY (dY rfl) (hM 2)) (hM 3)
   rw [Bool.true_and]
 ·have hk' : decide (k = 4) = false := by simp [hk]
  rw [hk']
  repeat (first | refine W.q ?_ | refine W.region ah b (by decide) (aR (by simp only [exb, simprocAttr, hM, hk', hjb, hjb', hj, Nat.add_left_cancel_iff]; rfl)) ?_)
  refine W.cf rfl ?_;refine zm3 ?_;refine zm8 ?_;refine Q9 ?_;simp only [dw, eY, bS];refine xe0 ?_;exact Zn
theorem D9 (bs : ByteArray) : ∀ (n i : Nat) (r : List UInt8), bs.size - i = n → ByteArray.toList.loop bs i r = r.reverse ++ bs.data.toList.drop i := by
 intro n;induction n with
 | zero =>
   intro i r h;unfold ByteArray.toList.loop;rw [if_neg (by omega)];have : bs.data.toList.drop i = [] := List.drop_of_length_le (by simp only [Array.length_toList]; show bs.data.size ≤ i; have : bs.size = bs.data.size := rfl; omega);rw [this, List.append_nil]
 | succ n ih =>
   intro i r h;have hlt : i < bs.size := by omega
   unfold ByteArray.toList.loop;rw [if_pos hlt, ih (i + 1) _ (by omega)];have hl : i < bs.data.toList.length := by simpa using hlt
   rw [List.drop_eq_getElem_cons hl, List.reverse_cons, List.append_assoc]
   congr 1
   have : bs.get! i = bs.data.toList[i] := by
    show bs.data[i]! = _;rw [getElem!_pos bs.data i hlt]; simp
   rw [this]; rfl
theorem sF (s : ByteArray) : s.toList = bs s := by
 unfold ByteArray.toList;rw [D9 s _ 0 [] rfl]; rfl
abbrev cBs (L : List Nm) : List (List C) := L.map cB
theorem UF (b : Nm) (s : ByteArray) : ((⟨b.toArray⟩ : ByteArray).toList == s.toList) = (b == bs s) := by rw [sF, sF, AZ]
theorem Ch {L : List Nm} {k : Nat} {s x : Nm} (h : (L.take k).contains s = false) (hx : L[k]? = some x) : (L.take (k + 1)).contains s = (x == s) := by
 rw [List.take_add_one, hx, List.contains_eq_any_beq, List.any_append, ← List.contains_eq_any_beq, h];show (false || ([x].any fun y => s == y)) = _;rw [Bool.false_or, List.any_cons, List.any_nil, Bool.or_false, Bool.eq_iff_iff, beq_iff_eq, beq_iff_eq];exact eq_comm
theorem Il (L : List Nm) (hL : L.length ≤ 1000000000000) (s : ByteArray) (m : Mem) : COk Tryz.prog 49 [.c (.sl (cBs L)), .c (.str s)] m (.c (.bool (L.contains (bs s)))) := by
 refine (aS ah Tryz.func49 (by kernel_rfl) rfl rfl (by rfl) (by rfl) (by rfl) (fun R hkeep => ?_) m);refine W.go ?_;refine W.loop (ι := Nat) (fun k => ⟨upd (upd (upd (upd (fun _ => .top) 1 (.c (.str s))) 7 (.c (.sl (cBs L)))) 8 (.c (.int .i64 L.length))) 9 (.c (.int .i64 k)), Mem.nil⟩)
  (fun k => k ≤ L.length ∧ (L.take k).contains (bs s) = false) (fun k => L.length - k) 0 ?start ⟨Nat.zero_le _, rfl⟩ ?round
 case start =>
  exact YI
 case round =>
  rintro k ⟨hk, hall⟩;refine W.go ?_;refine W.cond rfl ?_ ?_
  ·intro hlt;replace hlt := dtl hlt;obtain ⟨x, hx⟩ : ∃ x, L[k]? = some x := ⟨_, List.getElem?_eq_getElem hlt⟩;have hn := Ch hall hx
   repeat (first | refine W.q ?_ | refine W.g ?_ (by simp only [exb, simprocAttr, List.length_map, hlt, bA hx, cB, UF]; rfl))
   refine W.cond rfl ?_ ?_
   ·intro heq;refine zm6 ?_;simp only [Tryz.f49, aU, ay, toT, fin, exb, simprocAttr];rw [heq] at hn;have : L.contains (bs s) = true := by
     have e : L = L.take (k + 1) ++ L.drop (k + 1) := (List.take_append_drop _ _).symm;rw [List.contains_eq_any_beq] at hn ⊢;rw [e, List.any_append, hn]; rfl
    rw [this]
   ·intro hne;refine W.go ?_;refine ⟨k + 1, ⟨hlt, hn.trans hne⟩, by omega, ?_⟩;exact O9
  ·intro hge;replace hge := dnl hge;obtain rfl : k = L.length := by omega
   rw [List.take_length] at hall;refine W.go ?_;refine W.rt ?_;simp only [Tryz.f49, aU, ay, toT, fin, exb, simprocAttr, hall]
theorem lT (L : List Nm) : ∀ l l' : List Expr, gL L (l ++ l') = (gL L l && gL L l')
 | [], l' => by simp [gL]
 | x :: l, l' => by simp [gL, lT L l l', Bool.and_assoc]
set_option maxHeartbeats 2000000 in
theorem Fz : ∀ (n : Nat) (x : Expr), SizeOf.sizeOf x ≤ n → SmE x → ∀ (L : List Nm), L.length ≤ 1000000000000 → ∀ m, COk Tryz.prog 82 [.c (.sl (cBs L)), .agg (cExpr x)] m (.c (.bool (kC L x))) := by
 intro n;induction n using Nat.strongRecOn with
 | ind n ih =>
 rintro ⟨k, nn, nm, kids⟩ hn hsm L hL m;have hsz := Expr.mk.sizeOf_spec k nn nm kids;simp only [SmE] at hsm;simp only [cExpr, aX];refine (aS ah Tryz.func82 (by kernel_rfl) rfl rfl (by rfl) (by rfl) (by rfl) (fun R hkeep => ?_) m);by_cases hk : k = 4
 ·subst hk;cases hs : L.contains (bs nm) with
  | false =>
    skip;refine zm4 ?_;refine W.g ?_;refine zm4 ?_;refine zm1 ?_;refine acw ?_;rw [hs];refine xe0 ?_;refine jA ?_;refine zm6 ?_;simp only [Tryz.f82, aU, ay, toT, fin, exb, simprocAttr];rw [y9]; unfold hasB; rw [hs]; rfl
  | true =>
    skip;refine zm4 ?_;refine W.g ?_;refine zm4 ?_;refine zm1 ?_;refine acw ?_;rw [hs];refine xe0 ?_;refine W.cf rfl ?_;have hhead : kC L ⟨4, nn, nm, kids⟩ = gL L kids := by rw [y9]; unfold hasB; rw [hs]; rfl
    exact zt4
 ·have hk' : decide (k = 4) = false := by simp [hk]
  refine zm4 ?_;refine W.g ?_;refine zm4 ?_
  repeat (first | refine W.q ?_ | refine W.g ?_ (by simp only [exb, simprocAttr, hk']; rfl))
  refine W.cf rfl ?_;have hhead : kC L ⟨k, nn, nm, kids⟩ = gL L kids := by simp [kC, hk]
  exact zt4
theorem yD {L : List Nm} {p : Nm → Bool} {k : Nat} {x : Nm} (hx : L[k]? = some x) : (L.take (k + 1)).filter p = (L.take k).filter p ++ (if p x = true then [x] else []) := by
 rw [List.take_add_one, hx, List.filter_append]
 congr 1
 simp only [Option.toList, List.filter_cons, List.filter_nil]
theorem Gs {L : List Nm} {p : Nm → Bool} {k : Nat} : ((L.take k).filter p).length ≤ L.length := Nat.le_trans (List.length_filter_le _ _) Ah
theorem ZN (b : Nm) (s : ByteArray) : (!((⟨b.toArray⟩ : ByteArray).toList == s.toList)) = (b != bs s) := by rw [UF]; rfl
set_option maxHeartbeats 2000000 in
theorem jR (L : List Nm) (hL : L.length ≤ 1000000000) (s : ByteArray) (M : Mem) (b : Nat) (hM : M b = none) : dJ Tryz.prog 83 [.c (.sl (cBs L)), .c (.str s)] M [] (.own b) (upd M b (some (.arr 9 1 (cBs (iE (bs s) L))))) := by
 refine XT ah Tryz.func83 (by kernel_rfl) rfl rfl (by rfl) (by rfl) ⟨_, _, _, .inl rfl⟩ (fun R hkeep => ?_) M b hM;refine W.go ?_;refine W.mZ 5 30 9 1 rfl rfl ?_;refine W.loop (ι := Nat) (fun k => ⟨upd (upd (upd (upd (upd (fun _ => .top) 1 (.c (.str s))) 5 (.own 30)) 8 (.c (.sl (cBs L)))) 9 (.c (.int .i64 L.length))) 10 (.c (.int .i64 k)), upd Mem.nil 30 (some (.arr 9 1 (cBs ((L.take k).filter fun t => t != bs s))))⟩)
  (fun k => k ≤ L.length) (fun k => L.length - k) 0 ?start (Nat.zero_le _) ?round
 case start =>
  exact YI
 case round =>
  rintro k hk;refine W.go ?_;refine W.cond rfl ?_ ?_
  ·intro hlt;replace hlt := dtl hlt;obtain ⟨x, hx⟩ : ∃ x, L[k]? = some x := ⟨_, List.getElem?_eq_getElem hlt⟩;have htk := yD (p := fun t => t != bs s) hx;have hfl := Gs (L := L) (p := fun t => t != bs s) (k := k)
   repeat (first | refine W.q ?_ | refine W.g ?_ (by simp only [exb, simprocAttr, List.length_map, hlt, bA hx, cB, ZN]; rfl))
   refine W.cond rfl ?_ ?_
   ·intro heq;rw [if_pos heq] at htk;refine W.go ?_;refine zm1 ?_;refine xs0 3 ?_;refine cK ah 30 rfl rfl rfl rfl rfl rfl rfl rfl nR rfl rfl rfl rfl (cu hkeep) (by simp) (by simp; omega) (by decide) ?_;exact aaj
   ·intro hne;rw [if_neg (by simp [hne]), List.append_nil] at htk;exact VL
  ·intro hge;replace hge := dnl hge;obtain rfl : k = L.length := by omega
   rw [List.take_length];refine W.go ?_;refine W.ret ⟨.inr rfl, by rfl, 30, ?_, rfl⟩;simp only [Tryz.f83, resE, ay, fin, toT, exb, simprocAttr]
set_option maxHeartbeats 2000000 in
theorem RF (L Lb : List Nm) (hL : L.length ≤ 1000000000) (hLb : Lb.length ≤ 1000000000) (m : Mem) : COk Tryz.prog 131 [.c (.sl (cBs L)), .c (.sl (cBs Lb))] m (.c (.sl (cBs (L.filter fun t => Lb.contains t)))) := by
 refine (aS ah Tryz.func131 (by kernel_rfl) rfl rfl (by rfl) (by rfl) (by rfl) (fun R hkeep => ?_) m);refine W.go ?_;refine W.mZ 5 30 9 1 rfl rfl ?_;refine W.loop (ι := Nat) (fun k => ⟨upd (upd (upd (upd (upd (fun _ => .top) 1 (.c (.sl (cBs Lb)))) 5 (.own 30)) 8 (.c (.sl (cBs L)))) 9 (.c (.int .i64 L.length))) 10 (.c (.int .i64 k)), upd Mem.nil 30 (some (.arr 9 1 (cBs ((L.take k).filter fun t => Lb.contains t))))⟩)
  (fun k => k ≤ L.length) (fun k => L.length - k) 0 ?start (Nat.zero_le _) ?round
 case start =>
  exact YI
 case round =>
  rintro k hk;refine W.go ?_;refine W.cond rfl ?_ ?_
  ·intro hlt;replace hlt := dtl hlt;obtain ⟨x, hx⟩ : ∃ x, L[k]? = some x := ⟨_, List.getElem?_eq_getElem hlt⟩;have htk := yD (p := fun t => Lb.contains t) hx;have hfl := Gs (L := L) (p := fun t => Lb.contains t) (k := k);have hhx := Il Lb (by omega) ⟨x.toArray⟩;rw [AZ] at hhx
   repeat (first | refine W.q ?_ | refine W.g ?_ Qw)
   refine zm1 ?_;refine acr ?_;refine W.cond rfl ?_ ?_
   ·intro heq;rw [if_pos heq] at htk;refine W.go ?_;refine zm1 ?_;refine xs0 3 ?_;refine cK ah 30 rfl rfl rfl rfl rfl rfl rfl rfl nR rfl rfl rfl rfl (cu hkeep) (by simp) xq (by decide) ?_;exact aaj
   ·intro hne;rw [if_neg (by rw [hne]; decide), List.append_nil] at htk;exact VL
  ·intro hge;replace hge := dnl hge;obtain rfl : k = L.length := by omega
   rw [List.take_length];refine W.go ?_;refine W.rt ?_;simp only [Tryz.f131, aU, ay, toT, fin, exb, simprocAttr]
end V
end Go.Proofs.YtgaipdillmleeaaGreat
end
section
namespace Go.Proofs.YtgaipdillmleeaaGreat
namespace V
open Go.RowKit
theorem Fj (j : Nat) (a : A1) : (a.kill j).kill j = a.kill j := by
 unfold A1.kill;split
 ·simp [A1.ids]
 ·rfl
theorem II (j : Nat) (a : A) : (a.kill j).kill j = a.kill j := by
 rcases (A.dx (id := j) (a := a)).2 with e | ⟨e, -⟩
 ·rw [e]; rfl
 ·rw [e, e]
theorem Aw (j : Nat) (o : O) : O.kill j (O.kill j o) = O.kill j o := by
 cases o <;> simp [O.kill, II, Fj]
def jnM (M : Mem) (j : Nat) (o : Option (List (List UInt8))) : Mem := upd (fq j M) j (some (.names o))
theorem qK {M : Mem} {j : Nat} {o} : jnM M j o j = some (.names o) := upd_same ..
theorem zN {M : Mem} {j i : Nat} {o} (h : M i = none) (hj : (M j).isSome = true) : jnM M j o i = none := by
 have : i ≠ j := fun e => by subst e; rw [h] at hj; cases hj
 unfold jnM;rw [upd_ne _ _ this, aB, h]; rfl
theorem kH {M : Mem} {j i : Nat} {o} (h : (M i).isSome = true) : (jnM M j o i).isSome = true := by
 unfold jnM upd;split
 ·rfl
 ·rw [aB]; simpa using h
theorem Ql {M : Mem} {j : Nat} {o} (hw : WFm M) : WFm (jnM M j o) := fun i x hx q hq => by
 unfold jnM upd at hx;split at hx
 ·cases hx; simp [O.ids] at hq
 ·rw [aB] at hx;cases hm : M i with
  | none => rw [hm] at hx; cases hx
  | some y =>
    rw [hm] at hx;cases hx
    exact kH (hw i y hm q (O.dx q hq))
section
variable {w0 w : World} {I0 I : Nat → Nat → Prop} {B : Nat → Value} {m M : Mem}
theorem MR.Uy (h : MR w0 I0 B I m w) {i j : Nat} {x o : Option (List (List UInt8))} (hi : m i = some (.names x)) (hx : x = o ∨ o = none) (hij : i = j ∨ M i = none) (hM : ∀ u z, u ≠ j → M u = some z → m u = some z ∨ m u = some (O.kill j z)) (hw : WFm M) (hjs : (M j).isSome = true) : MR w0 I0 (upd B j (B i)) I (jnM M j o) w := by
 have other : ∀ {u : Nat} {z : O}, jnM M j o u = some z → (u = j ∧ z = .names o) ∨ (u ≠ j ∧ u ≠ i ∧ ∃ y, M u = some y ∧ z = O.kill j y) := fun {u z} hz => by
  unfold jnM upd at hz;split at hz
  ·exact U5
  ·rename_i e;rw [aB] at hz;cases hm : M u with
   | none => rw [hm] at hz; cases hz
   | some y =>
     rw [hm] at hz;refine .inr ⟨e, fun q => ?_, y, rfl, (Option.some.inj hz).symm⟩;subst q;rcases hij with q | q
     ·exact e q
     ·rw [q] at hm; cases hm
 obtain ⟨r, es, clock, r1, r2, r3, r4⟩ := h.objs i _ hi;have hB : ∀ u, u ≠ j → upd B j (B i) u = B u := fun u hu => upd_ne _ _ hu
 have ft : ∀ {u : Nat} {y : O} {k : Nat}, u ≠ j → foot (upd B j (B i)) u (O.kill j y) k → M u = some y → ∃ y', m u = some y' ∧ foot B u y' k := fun {u y k} hu hk hy => by
  have := (sI (hB u hu)).1 hk;rcases hM u y hu hy with q | q
  ·exact ⟨y, q, this⟩
  ·exact ⟨_, q, (sI (B := B) rfl).2 this⟩
 have fj : ∀ {k : Nat}, foot (upd B j (B i)) j (.names o) k → foot B i (.names x) k := fun {k} hk => by
  have hk : upd B j (B i) j = .map (some k) := hk;rw [upd_same] at hk; exact hk
 refine ⟨h.below, h.glob, h.base, h.old, h.there, fun u z hz => ?_, fun u z hz k hk => ?_, fun u z u' z' hz hz' hne k hk hk' => ?_, fun u z hz q hq => ?_⟩
 ·rcases other hz with ⟨rfl, rfl⟩ | ⟨hu, -, y, hy, rfl⟩
  ·refine ⟨r, es, clock, by rw [upd_same]; exact r1, r2, ?_, r4⟩;rcases hx with rfl | rfl
   ·exact r3
   ·exact r3.forget
  ·rcases hM u y hu hy with q | q
   ·exact RO.kill (Ext.refl _ _) (hB u hu) (fun v hv => hB v hv) (fun _ _ => rfl) (fun _ _ _ k => k) (h.objs u _ q)
   ·have := RO.kill (id := j) (Ext.refl _ _) (hB u hu) (fun v hv => hB v hv) (fun _ _ => rfl) (fun _ _ _ k => k) (h.objs u _ q)
    rwa [Aw] at this
 ·rcases other hz with ⟨rfl, rfl⟩ | ⟨hu, -, y, hy, rfl⟩
  ·exact h.low i _ hi k (fj hk)
  ·obtain ⟨y', q1, q2⟩ := ft hu hk hy;exact h.low u _ q1 k q2
 ·rcases other hz with ⟨e1, e2⟩ | ⟨hu, hui, y, hy, e2⟩
  ·rcases other hz' with ⟨e3, e4⟩ | ⟨hu', hui', y', hy', e4⟩
   ·exact hne (e1.trans e3.symm)
   ·rw [e1, e2] at hk;rw [e4] at hk';obtain ⟨y2, q1, q2⟩ := ft hu' hk' hy';exact h.apart i _ u' y2 hi q1 (fun e => hui' e.symm) k (fj hk) q2
  ·rw [e2] at hk;obtain ⟨y1, p1, p2⟩ := ft hu hk hy;rcases other hz' with ⟨e3, e4⟩ | ⟨hu', hui', y', hy', e4⟩
   ·rw [e3, e4] at hk';exact h.apart u y1 i _ p1 hi hui k p2 (fj hk')
   ·rw [e4] at hk';obtain ⟨y2, q1, q2⟩ := ft hu' hk' hy';exact h.apart u y1 u' y2 p1 q1 hne k p2 q2
 ·rcases other hz with ⟨rfl, rfl⟩ | ⟨hu, -, y, hy, rfl⟩
  ·simp [O.ids] at hq
  ·exact kH (hw u y hy q (O.dx q hq))
end
theorem W.Qz {P : Go.Program} {R : Ref} {n : Nat} {ds : List Deferred} {st : St} {c : Code} {K : Exit → St → Prop} (j : Nat) {o : Option (List (List UInt8))} (hj : st.m j = some (.names o)) (h : W P R n ds ⟨st.s, jnM st.m j o⟩ c K) : W P R n ds st c K := fun a w hr => by
 refine h a w ?_;obtain ⟨B, I, hm, hx0, hkp0, hs⟩ := hr.ex;have hB : upd B j (B j) = B := IY B rfl;have hm2 := hm.Uy (M := st.m) (j := j) (o := o) hj (.inl rfl) (.inl rfl) (fun u z _ hz => .inl hz) hr.wf.live (by rw [hj]; rfl);rw [hB] at hm2;exact ⟨⟨B, I, hm2, hx0, hkp0, hs⟩, fun t i hi => kH (hr.ids t i hi), hr.size, hr.nn, hr.defs, fun i hi => kH (hr.kept i hi)⟩
def jq (o : Option (List (List UInt8))) (ok : Bool) (j : Nat) : A := .tupA [match o with | some _ => .map j | none => .nilv (.map none), .c (.bool ok)]
theorem JR {P : Go.Program} {T : Tab} (hT : T.Ok P) {f : FuncId} {fn : Func} {c : Code} {l : List ResultVar} {args : List A} {M : Mem} (j : Nat) (o : Option (List (List UInt8))) (ok : Bool) (hf : P.funcs[f]? = some fn) (hn : (fn.name == "runtime.NumGoroutine") = false) (hb : fn.body = some c) (hl : fn.results.toList = l)
 (hle : decide (args.length ≤ fn.ntmps ∧ fn.ntmps ≤ DID) = true) (hdf : args.all (fun a => !(match a with | .defs _ => true | _ => false)) = true) (hids : ∀ a ∈ args, ∀ j ∈ a.ids, (M j).isSome = true) (hj : (M j).isSome = true)
 (hW : WFm M → ∀ R : Ref, R.keep = (fun u => (M u).isSome = true ∧ u ∉ [j]) → W P R fn.ntmps [] ⟨entry args, M⟩ c (fun e st => (e = .normal ∨ e = .ret) ∧ dfs (st.s DID) = [] ∧
   ∃ i x, resE T st l = some (jq o ok i) ∧ st.m i = some (.names x) ∧ (x = o ∨ o = none) ∧ (i = j ∨ M i = none) ∧ ∀ u z, u ≠ j → M u = some z → st.m u = some z ∨ st.m u = some (O.kill j z))) : dJ P f args M [j] (jq o ok j) (jnM M j o) := by
 refine ⟨enters_of hf hn hb, fun u hu => ?_, fun u hu => kH hu, Ql, ?_⟩
 ·have : u = j := by
   unfold jq at hu;cases o with
   | none => simp [A.ids, A1.ids] at hu
   | some L => simpa [A.ids, A1.ids] using hu
  subst this
  rw [qK]; rfl
 intro w0 I0 B I w vals hm hv
 have hWF : WFm M := hm.live
 have hd2 : ∀ a ∈ args, ∀ l, a ≠ .defs l := fun a ha l e => by have := List.all_eq_true.1 hdf a ha; subst e; simp at this
 obtain ⟨hl1, hl2⟩ := of_decide_eq_true hle
 have hlen := lQ hv
 refine calls_of_wp hf hb ?_
 have h0 : SR ⟨w0, I0, w, I, B, fun u => (M u).isSome = true ∧ u ∉ [j]⟩ fn.ntmps [] ⟨entry args, M⟩ { tmps := vals.toArray ++ Array.replicate (fn.ntmps - vals.toArray.size) undef, defers := [] } w := by
  exact aaR
 refine wp_mono (hW hWF _ rfl _ w h0) ?_
 rintro e a' w' ⟨st', ⟨he, hdn, i, x, hres, hi, hx, hij, hkeep⟩, ⟨⟨B', I', hm', hx', hkp', hs'⟩, -, -, -, hds, -⟩⟩
 rw [hdn] at hds
 obtain ⟨v, h1, h2⟩ := zO hT hm' hs' hl hres
 have hm2 := hm'.Uy (M := M) hi hx hij hkeep hWF hj
 have hB : ∀ u, (M u).isSome = true → u ∉ [j] → upd B' j (B' i) u = B u := fun u hu hn => by
  rw [upd_ne _ _ (fun e => hn (by simp [e]))]; exact hkp' u ⟨hu, hn⟩
 have hv2 : RV (upd B' j (B' i)) w' I' (jq o ok j) v := by
  unfold jq at h2 ⊢;cases o with
  | none =>
    obtain ⟨vs, q1, q2⟩ := h2;refine ⟨vs, q1, ?_⟩;match vs, q2 with
    | [v1, v2], ⟨p1, p3, p4⟩ => exact ⟨p1, p3, p4⟩
  | some L =>
    obtain ⟨vs, q1, q2⟩ := h2;refine ⟨vs, q1, ?_⟩;match vs, q2 with
    | [v1, v2], ⟨⟨p1, p2⟩, p3, p4⟩ =>
      exact ⟨⟨by rw [upd_same]; exact p1, p2⟩, p3, p4⟩
 have hpost : a'.defers = [] ∧ ∃ v, (results fn a'.tmps).run P w' = .ok v w' ∧ ∃ v' B'' I'', Ending.returned v = .returned v' ∧ MR w0 I0 B'' I'' (jnM M j o) w' ∧ Ext w w' I I'' ∧ (∀ u, (M u).isSome = true → u ∉ [j] → B'' u = B u) ∧ RV B'' w' I'' (jq o ok j) v' :=
  ⟨hds, v, h1, v, _, I', rfl, hm2, hx', hB, hv2⟩
 rcases he with rfl | rfl
 ·exact hpost
 ·exact hpost
end V
end Go.Proofs.YtgaipdillmleeaaGreat
end
section
namespace Go.Proofs.YtgaipdillmleeaaGreat
namespace V
open Go.RowKit AS
abbrev Ec : A := .nilv (.map none)
theorem Sg (M : Mem) (b : Nat) (hM : ∀ d, M (b + d) = none) : dJ Tryz.prog 55 [Ec, Ec] M [] Ec M := by
 refine (jN ah [] Tryz.func55 (by kernel_rfl) rfl rfl (by rfl) (by rfl) ?ids ?res ?sub ?wfm (fun hWF Rr hkeep => ?_))
 case ids => intro a ha j hj; simp at ha; subst ha; simp [A.ids] at hj
 case res => intro j hj; simp [A.ids] at hj
 case sub => exact fun j hj => hj
 case wfm => exact fun hw => hw
 exact YR
theorem R9 (j : Nat) {o : O} (M : Mem) (b : Nat) (hM : ∀ d, M (b + d) = none) (hj : M j = some o) : dJ Tryz.prog 55 [Ec, .map j] M [] (.map j) M := by
 refine (jN ah [] Tryz.func55 (by kernel_rfl) rfl rfl (by rfl) (by rfl) ?ids ?res ?sub ?wfm (fun hWF Rr hkeep => ?_))
 case ids => intro a ha i hi; simp at ha; rcases ha with rfl | rfl <;> simp [A.ids] at hi; subst hi; simp [hj]
 case res => intro i hi; simp [A.ids] at hi; subst hi; simp [hj]
 case sub => exact fun j hj => hj
 case wfm => exact fun hw => hw
 exact YR
theorem QI (q : Nat) {o : O} (M : Mem) (b : Nat) (hM : ∀ d, M (b + d) = none) (hq : M q = some o) : dJ Tryz.prog 55 [.map q, Ec] M [] (.map q) M := by
 refine (jN ah [] Tryz.func55 (by kernel_rfl) rfl rfl (by rfl) (by rfl) ?ids ?res ?sub ?wfm (fun hWF Rr hkeep => ?_))
 case ids => intro a ha i hi; simp at ha; rcases ha with rfl | rfl <;> simp [A.ids] at hi; subst hi; simp [hq]
 case res => intro i hi; simp [A.ids] at hi; subst hi; simp [hq]
 case sub => exact fun j hj => hj
 case wfm => exact fun hw => hw
 refine PY ?_;refine W.cf rfl ?_;refine PY ?_;refine jA ?_;refine PY ?_;refine W.ret ⟨.inr rfl, by rfl, ?_, ?mle⟩;simp only [Tryz.f55, resE, ay, fin, toT, exb, simprocAttr]
 case mle => exact gY (dY rfl) (hM 3)
theorem RU (q j : Nat) (hqj : q ≠ j) (L Lb : List Nm) (hL : L.length ≤ 1000000000000) (M : Mem) (b : Nat) (hM : ∀ d, M (b + d) = none) (hq : M q = some (.names (some L))) (hj : M j = some (.names (some Lb))) :
 dJ Tryz.prog 55 [.map q, .map j] M [] (.map q) (upd M q (some (.names (some (L.filter fun s => Lb.contains s))))) := by
 have hjb : ∀ d, (j = b + d) = False := jK hM hj
 have hjb' : ∀ d, (b + d = j) = False := nG hM hj
 have hqb : ∀ d, (q = b + d) = False := jK hM hq
 have hqb' : ∀ d, (b + d = q) = False := nG hM hq
 refine (jN ah [] Tryz.func55 (by kernel_rfl) rfl rfl (by rfl) (by rfl) ?ids ?res ?sub ?wfm (fun hWF Rr hkeep => ?_))
 case ids => intro a ha i hi; simp at ha; rcases ha with rfl | rfl <;> simp [A.ids] at hi <;> subst hi <;> simp [hq, hj]
 case res => intro i hi; simp [A.ids] at hi; subst hi; rw [upd_same]; rfl
 case sub => exact fun j hj => cO j hj
 case wfm => exact fun hw => dH hw (fun i hi => by simp [O.ids] at hi)
 repeat (first | refine W.q ?_ | refine W.region ah b (by decide) (aR zT) ?_)
 refine W.cf rfl ?_
 repeat (first | refine W.q ?_ | refine W.region ah b (by decide) (aR zT) ?_)
 refine W.cf rfl ?_
 repeat (first | refine W.q ?_ | refine W.region ah b (by decide) (aR zT) ?_)
 refine W.bR ah b (by decide) ?_
 have hd := Rf (M := upd M (b + 3) (some (.box 48 [.map j]))) (j := q) (q := b + 3) (b := j) (g := 90) (p := fun s => !Lb.contains s) (by rw [upd_ne _ _ (fun e => cast (hqb _) e)]; exact hq) hL (upd_same ..) PK hqj (enters_of Tryz.func90 (by kernel_rfl) rfl) (fun s a W bx rb es clock h1 h2 h3 => K3 s a W bx rb es clock h1 h2 h3)
 refine aj 2 (by simp only [exb, simprocAttr, hM, hqb, hjb]; rfl) ?_
 refine bW (D := []) rfl rfl rfl rfl rfl (fun j hj => by simp at hj) (by simp) cw2 hd ?_
 simp only [dw, eY, bS]
 refine xe0 ?_
 repeat (first | refine W.q ?_ | refine W.region ah b (by decide) xr0 ?_)
 refine W.ret ⟨.inr rfl, by rfl, ?_, ?mle⟩
 simp only [Tryz.f55, resE, ay, fin, toT, exb, simprocAttr]
 case mle =>
  rw [MC _ _ _ (fun e => cast (hqb' _) e)];refine gY (dY ?_) ?_
  ·simp only [Bool.not_not]
  ·rw [upd_ne _ _ (fun e => cast (hqb' _) e)]; exact hM 3
end V
end Go.Proofs.YtgaipdillmleeaaGreat
end
section
namespace Go.Proofs.YtgaipdillmleeaaGreat
namespace V
open Go.RowKit
section
variable {P : Go.Program} {T : Tab} {base : Nat} {ops : Array Oper} (hT : T.Ok P) {R : Ref} {w : World} {n : Nat} {ds : List Deferred} {l n' : Nat}
include hT
theorem plain_round (hd : ∀ o ∈ ops, ∀ d, o.dst = some d → d < n) (hnd : kV ops = true) {Q : Exit → Act → World → Prop} {st' : St} (hQ : ∀ a w, SR R n ds st' a w → Q .normal a w) :
 ∀ (L : List Nat) (st : St) (a : Act) (w : World), Chain P T R.keep base ops L st st' → SR R n ds st a w → wpOpsIn (Fence.wide.inRound l) n' P ops Q L a w
 | [], st, a, w, h, hr => by cases h; exact hQ a w hr
 | i :: L, st, a, w, h, hr => by
   cases h with
   | @cons _ o _ _ st1 _ hi h1 t =>
     unfold wpOpsIn;simp only [hi];have hgo := h1.snd hT hr (hd o (Array.mem_of_getElem? hi)) (K := wpOpsIn (Fence.wide.inRound l) n' P ops Q L) (Q := Q) (fun a' w' hr' => plain_round hd hnd hQ L st1 a' w' t hr');split
     ·rename_i hw; rw [if_pos hw] at hgo; exact Ad (wH hnd hi) hgo
     ·rename_i hw; rw [if_neg hw] at hgo; exact ⟨fun _ _ => trivial, hgo⟩
end
def WI (l n' : Nat) (P : Go.Program) (R : Ref) (n : Nat) (ds : List Deferred) (st : St) (c : Code) (K : Exit → St → Prop) : Prop :=
 ∀ a w, SR R n ds st a w → c.wpIn (Fence.wide.inRound l) n' P (fun e a' w' => ∃ st', K e st' ∧ SR R n ds st' a' w') a w
section
variable {l n' : Nat} {P : Go.Program} {T : Tab} {R : Ref} {n : Nat} {ds : List Deferred} {st : St} {K : Exit → St → Prop}
theorem WI.mono {c : Code} {K' : Exit → St → Prop} (h : WI l n' P R n ds st c K) (hk : ∀ e st', K e st' → K' e st') : WI l n' P R n ds st c K' :=
 fun a w hr => wpIn_mono (h a w hr) fun e _ _ ⟨st', h1, h2⟩ => ⟨st', hk e st' h1, h2⟩
theorem WI.region (hT : T.Ok P) (base : Nat) {id : Nat} {ops : Array Oper} {st' : St} (hd : jX n ops = true) (hnd : kV ops = true) (h : RunL P T R.keep base ops ops.toList st st') (hk : K .normal st') : WI l n' P R n ds st (.region id ops false) K := fun a w hr =>
 wpIn_region (plain_round hT (iw hd) hnd (fun a w hr' => ⟨st', hk, hr'⟩) _ st a w QM hr)
theorem WI.Ep (hT : T.Ok P) (base : Nat) {id : Nat} {ops : Array Oper} {st' : St} (hm : P.follows .mixedOrders = true) (hok : q9 T ops = true) (hd : jX n ops = true) (hnd : kV ops = true) (h : RunL P T R.keep base ops ops.toList st st') (hk : K .normal st') : WI l n' P R n ds st (.region id ops true) K := fun a w hr => by
 refine wpIn_mono (Q := fun e a w => e = .normal ∧ SR R n ds st' a w) (vw (fun ⟨_, _, h, _⟩ => by cases h) hm hnd (Jq hT hok (iw hd) (fun a w hr' => ⟨rfl, hr'⟩) _ _ (List.range ops.size) st a _ (by simp) (by simp) (List.pairwise_lt_range) (fun i => ?_) (fun k o ho hl => ?_) ?_ QM)) fun e a w h => ⟨st', h.1 ▸ hk, h.2⟩
 ·exact Ua
 ·exact UU
 ·exact Yu
theorem WI.seq {x y : Code} (h : WI l n' P R n ds st x (yG (fun st' => WI l n' P R n ds st' y K) K)) : WI l n' P R n ds st (.seq x y) K := fun a w hr =>
 wpIn_seq (wpIn_mono (h a w hr) fun e a' w' ⟨st', h1, h2⟩ => by
  cases e with
  | normal => exact h1 a' w' h2
  | _ => exact ⟨st', h1, h2⟩)
theorem WI.cond {c : Operand} {x y : Code} {b : Bool} (hc : ev st.s c = .c (.bool b)) (ht : b = true → WI l n' P R n ds st x K) (hf : b = false → WI l n' P R n ds st y K) : WI l n' P R n ds st (.cond c x y) K := fun a w hr => by
 obtain ⟨B, I, hm, -, -, hs⟩ := hr.ex;have := gM hs c;rw [hc] at this;exact wpIn_cond_split (RC.toBool this) (fun e => ht e a w hr) (fun e => hf e a w hr)
theorem WI.block {id : Nat} {c : Code} (h : WI l n' P R n ds st c (Jj id K)) : WI l n' P R n ds st (.block id c) K := fun a w hr =>
 wpIn_block (wpIn_mono (h a w hr) fun e a' w' ⟨st', h1, h2⟩ => by
  cases e with
  | exit j =>
    exact ZX
  | _ => exact ⟨st', h1, h2⟩)
theorem WI.exit {id : Nat} (h : K (.exit id) st) : WI l n' P R n ds st (.exit id) K := fun _ _ hr => wpIn_exit ⟨st, h, hr⟩
theorem WI.ret (h : K .ret st) : WI l n' P R n ds st .ret K := fun _ _ hr => wpIn_ret ⟨st, h, hr⟩
theorem WI.skip (h : K .normal st) : WI l n' P R n ds st .skip K := fun _ _ hr => wpIn_skip ⟨st, h, hr⟩
theorem WI.weaken {st' : St} {c : Code} (hl : Le R.keep st st') (h : WI l n' P R n ds st' c K) : WI l n' P R n ds st c K := fun a w hr => h a w (hr.le hl)
theorem WI.loop {ι : Type} {c : Code} (mk : ι → St) (Inv : ι → Prop) (μ : ι → Nat) (i0 : ι) (hl : Le R.keep st (mk i0)) (h0 : Inv i0)
 (hround : ∀ i, Inv i → WI l n' P R n ds (mk i) c (yG (fun st' => ∃ i', Inv i' ∧ μ i' < μ i ∧ Le R.keep st' (mk i')) K)) : WI l n' P R n ds st (.loop c) K := by
 refine WI.weaken hl ?_
 intro a w hr
 refine wpIn_loop_ghost (fun k a w => ∃ i, Inv i ∧ μ i = k ∧ SR R n ds (mk i) a w) (μ i0) ⟨i0, h0, rfl, hr⟩ ?_
 rintro k a w ⟨i, hi, rfl, hr⟩
 refine wpIn_mono (hround i hi a w hr) ?_
 rintro e a' w' ⟨st', h1, h2⟩
 cases e with
 | normal =>
   exact SQ
 | _ => exact ⟨st', h1, h2⟩
theorem WI.bR (hT : T.Ok P) (base : Nat) {id : Nat} {ops : Array Oper} (hd : jX n ops = true) (hnd : kV ops = true) (h : je P T R.keep base ops ops.toList st (K .normal)) : WI l n' P R n ds st (.region id ops false) K :=
 let ⟨_, h1, h2⟩ := h
 WI.region hT base hd hnd h1 h2
theorem WI.oK (hT : T.Ok P) (base : Nat) {id : Nat} {ops : Array Oper} (hm : P.follows .mixedOrders = true) (hok : q9 T ops = true) (hd : jX n ops = true) (hnd : kV ops = true) (h : je P T R.keep base ops ops.toList st (K .normal)) : WI l n' P R n ds st (.region id ops true) K :=
 let ⟨_, h1, h2⟩ := h
 WI.Ep hT base hm hok hd hnd h1 h2
end
def Runs (P : Go.Program) (T : Tab) (kp : Nat → Prop) (base : Nat) (ops : Array Oper) (K : St → Prop) : Nat → Array Bool → St → Prop
 | 0, listed, st => Region.ready .any ops listed = [] ∧ K st
 | f + 1, listed, st => (Region.ready .any ops listed = [] → K st) ∧ ∀ i ∈ Region.ready .any ops listed, ∀ o, ops[i]? = some o → ∃ st1, HS P T kp base ops o st st1 ∧ Runs P T kp base ops K f (listed.setIfInBounds i true) st1
section
variable {P : Go.Program} {T : Tab} (hT : T.Ok P) {R : Ref} {w : World} {n base : Nat} {ds : List Deferred} {ops : Array Oper}
include hT in
theorem zG (hd : ∀ o ∈ ops, ∀ d, o.dst = some d → d < n) {K : St → Prop} {Q : Exit → Act → World → Prop} (hQ : ∀ st a w, K st → SR R n ds st a w → Q .normal a w) :
 ∀ (fuel : Nat) (listed : Array Bool) (st : St) (a : Act) (w : World), Runs P T R.keep base ops K fuel listed st → SR R n ds st a w → wpAny P .any ops Q fuel listed a w := by
 intro fuel
 induction fuel with
 | zero =>
   intro listed st a w h hr;exact ⟨h.1, hQ _ _ _ h.2 hr⟩
 | succ fuel ih =>
   intro listed st a w h hr;obtain ⟨h0, h1⟩ := h;constructor
   ·intro hnil;exact hQ _ _ _ (h0 hnil) hr
   ·intro i hi;obtain ⟨-, oi, h2, -⟩ := mem_ready.1 hi;obtain ⟨st1, h4, h5⟩ := h1 i hi oi h2;unfold wpOp;rw [h2];have hgo := h4.snd hT hr (hd oi (Array.mem_of_getElem? h2)) (K := wpAny P .any ops Q fuel (listed.setIfInBounds i true)) (Q := Q) (fun a' w' hr' => ih _ _ _ _ h5 hr');exact Tf
end
section
variable {P : Go.Program} {T : Tab} {kp : Nat → Prop} {base f : Nat} {ops : Array Oper} {K : St → Prop} {listed : Array Bool} {st st1 st2 : St}
theorem EU (hr : Region.ready .any ops listed = []) (hk : K st) : Runs P T kp base ops K f listed st := by
 cases f with
 | zero => exact ⟨hr, hk⟩
 | succ f => exact ⟨fun _ => hk, fun i hi => by rw [hr] at hi; cases hi⟩
theorem zx {o : Oper} (h : exec T base ops [o] st = some st1) : HS P T kp base ops o st st1 := by
 have := aR (P := P) (kp := kp) h;cases this with
 | cons h t => cases t; exact h
theorem oq {i : Nat} {o : Oper} (hr : Region.ready .any ops listed = [i]) (ho : ops[i]? = some o) (h : ∃ st1, exec T base ops [o] st = some st1 ∧ Runs P T kp base ops K f (listed.setIfInBounds i true) st1) : Runs P T kp base ops K (f + 1) listed st :=
 ⟨(fun e => absurd (hr.symm.trans e) (by simp)), fun k hk' o' ho' => by
   rw [hr] at hk';obtain rfl : k = i := by simpa using hk'
   rw [ho] at ho';cases ho'
   exact let ⟨st1, h1, h2⟩ := h; ⟨st1, zx h1, h2⟩⟩
theorem wN {i j : Nat} {o p : Oper} (hr : Region.ready .any ops listed = [i, j]) (ho : ops[i]? = some o) (hp : ops[j]? = some p) (h : ∃ st1, exec T base ops [o] st = some st1 ∧ Runs P T kp base ops K f (listed.setIfInBounds i true) st1)
 (h' : ∃ st1, exec T base ops [p] st = some st1 ∧ Runs P T kp base ops K f (listed.setIfInBounds j true) st1) : Runs P T kp base ops K (f + 1) listed st :=
 ⟨(fun e => absurd (hr.symm.trans e) (by simp)), fun k hm o' ho' => by
   rw [hr] at hm;rcases List.mem_cons.1 hm with rfl | hm
   ·rw [ho] at ho';cases ho'
    exact let ⟨st1, h1, h2⟩ := h; ⟨st1, zx h1, h2⟩
   ·obtain rfl : k = j := by simpa using hm
    rw [hp] at ho';cases ho'
    exact let ⟨st1, h1, h2⟩ := h'; ⟨st1, zx h1, h2⟩⟩
end
section
variable {l n' : Nat} {P : Go.Program} {T : Tab} {R : Ref} {n : Nat} {ds : List Deferred} {st : St} {K : Exit → St → Prop}
theorem WI.JC (hT : T.Ok P) (base : Nat) {id : Nat} {ops : Array Oper} (hm : P.follows .mixedOrders = true) (hd : jX n ops = true) (hnd : kV ops = true) (h : Runs P T R.keep base ops (K .normal) ops.size (Array.replicate ops.size false) st) : WI l n' P R n ds st (.region id ops true) K := fun a w hr => by
 refine wpIn_mono (Q := fun e a w => e = .normal ∧ ∃ st', K .normal st' ∧ SR R n ds st' a w) (vw (fun ⟨_, _, h, _⟩ => by cases h) hm hnd (zG hT (iw hd) (fun st' a w hk hr' => ⟨rfl, st', hk, hr'⟩) _ _ st a _ h ?_)) fun e a w h => h.1 ▸ h.2;exact Yu
theorem W.JC (hT : T.Ok P) (base : Nat) {id : Nat} {ops : Array Oper} (hm : P.follows .mixedOrders = true) (hd : jX n ops = true) (h : Runs P T R.keep base ops (K .normal) ops.size (Array.replicate ops.size false) st) : W P R n ds st (.region id ops true) K := fun a w hr => by
 refine wp_region_any hm (zG hT (iw hd) (fun st' a w hk hr' => ⟨st', hk, hr'⟩) _ _ st a _ h ?_);exact Yu
end
def bN (T : Tab) (ops : Array Oper) (listed : Array Bool) (i : Nat) : Bool :=
 (Region.ready .any ops listed).contains i && (List.range ops.size).all fun j => j == i || listed.getD j true || (match ops[i]?, ops[j]? with | some oi, some oj => indep T ops oi oj | _, _ => false) || GN ops ops.size j i
section
variable {P : Go.Program} {T : Tab} {kp : Nat → Prop} {base : Nat} {ops : Array Oper} {K : St → Prop}
theorem qX {listed : Array Bool} {i k : Nat} {d : Bool} : (listed.setIfInBounds i true).getD k d = if i = k ∧ i < listed.size then true else listed.getD k d := by
 rw [Array.getD_eq_getD_getElem?, Array.getD_eq_getD_getElem?, Array.getElem?_setIfInBounds];by_cases e : i = k
 ·subst e;by_cases h : i < listed.size
  ·simp [h]
  ·simp [h]
 ·simp [e]
theorem qc {listed : Array Bool} {i : Nat} (hsz : listed.size = ops.size) (hc : lY ops listed) (hi : i ∈ Region.ready .any ops listed) : lY ops (listed.setIfInBounds i true) := by
 obtain ⟨h1, oi, h2, h3⟩ := mem_ready.1 hi;have hlt := (Array.getElem?_eq_some_iff.1 h2).1;intro k o hk hl e he hb;have up : listed.getD e.on false = true → (listed.setIfInBounds i true).getD e.on false = true := fun h => by
  rw [qX]; split
  ·rfl
  ·exact h
 rw [qX] at hl;by_cases q : i = k
 ·subst q;rw [h2] at hk;cases hk
  exact up (h3 e he hb)
 ·rw [if_neg (fun z => q z.1)] at hl;exact up (hc k o hk hl e he hb)
theorem xI {listed : Array Bool} {i k : Nat} (hne : k ≠ i) (hk : k ∈ Region.ready .any ops listed) : k ∈ Region.ready .any ops (listed.setIfInBounds i true) := by
 obtain ⟨h1, o, h2, h3⟩ := mem_ready.1 hk;refine mem_ready.2 ⟨?_, o, h2, fun e he hb => ?_⟩
 ·rw [qX, if_neg (fun z => hne z.1.symm)]; exact h1
 ·rw [qX]; split
  ·rfl
  ·exact h3 e he hb
theorem set_comm {listed : Array Bool} {i k : Nat} (h : i ≠ k) : (listed.setIfInBounds i true).setIfInBounds k true = (listed.setIfInBounds k true).setIfInBounds i true := by
 apply Array.ext_getElem?;intro j;simp only [Array.getElem?_setIfInBounds, Array.size_setIfInBounds];by_cases h1 : i = j
 ·have h2 : k ≠ j := fun e => h (h1.trans e.symm)
  simp [h1, h2]
 ·simp [h1]
theorem por {i : Nat} {oi : Oper} (hoi : ops[i]? = some oi) : ∀ (f : Nat) (listed : Array Bool) (st st1 : St), listed.size = ops.size → lY ops listed → bN T ops listed i = true → WF st → HS P T kp base ops oi st st1 → Runs P T kp base ops K f (listed.setIfInBounds i true) st1 →
 Runs P T kp base ops K (f + 1) listed st := by
 intro f
 induction f with
 | zero =>
   intro listed st st1 hsz hc hf hw h hr;simp only [bN, Bool.and_eq_true] at hf;have hi : i ∈ Region.ready .any ops listed := by simpa using hf.1
   refine ⟨(fun e => by rw [e] at hi; cases hi), fun k hk o ho => ?_⟩;by_cases e : k = i
   ·exact SI
   ·have := xI e hk;rw [hr.1] at this; cases this
 | succ f ih =>
   intro listed st st1 hsz hc hf hw h hr;have hf0 := hf;simp only [bN, Bool.and_eq_true] at hf;have hi : i ∈ Region.ready .any ops listed := by simpa using hf.1
   obtain ⟨i1, oi', i2, i3⟩ := mem_ready.1 hi;refine ⟨(fun e => by rw [e] at hi; cases hi), fun k hk o ho => ?_⟩;by_cases e : k = i
   ·exact SI
   ·obtain ⟨k1, ok, k2, k3⟩ := mem_ready.1 hk;rw [k2] at ho; cases ho;obtain ⟨st2, q1, q2⟩ := hr.2 k (xI e hk) o k2;have hlt := (Array.getElem?_eq_some_iff.1 k2).1;have hind : indep T ops oi o = true := by
     have := List.all_eq_true.1 hf.2 k (List.mem_range.2 hlt);simp only [Bool.or_eq_true, beq_iff_eq, hoi, k2] at this;rcases this with ((z | z) | z) | z
     ·exact absurd z e
     ·rw [k1] at z; cases z
     ·exact z
     ·have hl := mV hc _ k o k2 k3 z;rw [vE hl] at i1; cases i1
    obtain ⟨st3, c1, c2⟩ := HS.comm hind hw h q1;refine ⟨st3, c1, ih _ st3 st2 Dw (qc hsz hc hk) ?_ (HS.wf hw c1) c2 (by rw [← set_comm (Ne.symm e)]; exact q2)⟩;simp only [bN, Bool.and_eq_true];refine ⟨by simpa using xI (Ne.symm e) hi, List.all_eq_true.2 fun j hj => ?_⟩;have := List.all_eq_true.1 hf.2 j hj;simp only [Bool.or_eq_true] at this ⊢;rcases this with ((z | z) | z) | z
    ·exact .inl (.inl (.inl z))
    ·refine .inl (.inl (.inr ?_));rw [qX]; split
     ·rfl
     ·exact z
    ·exact .inl (.inr z)
    ·exact .inr z
def kD (P : Go.Program) (T : Tab) (kp : Nat → Prop) (base : Nat) (ops : Array Oper) (K : St → Prop) (f : Nat) (listed : Array Bool) (st : St) : Prop := listed.size = ops.size → lY ops listed → WF st → Runs P T kp base ops K f listed st
theorem Ho {f : Nat} {listed : Array Bool} {st : St} (i : Nat) {o : Oper} (ho : ops[i]? = some o) (hf : bN T ops listed i = true) (h : ∃ st1, HS P T kp base ops o st st1 ∧ kD P T kp base ops K f (listed.setIfInBounds i true) st1) : kD P T kp base ops K (f + 1) listed st := by
 intro hsz hc hw;obtain ⟨st1, h1, h2⟩ := h;have hi : i ∈ Region.ready .any ops listed := by
  simp only [bN, Bool.and_eq_true] at hf;simpa using hf.1
 exact por ho f listed st st1 hsz hc hf hw h1 (h2 Dw (qc hsz hc hi) (HS.wf hw h1))
def Steps (P : Go.Program) (T : Tab) (kp : Nat → Prop) (base : Nat) (ops : Array Oper) (K : St → Prop) (f : Nat) (listed : Array Bool) (st : St) : List Nat → Prop
 | [] => True
 | i :: l => (∃ o st1, ops[i]? = some o ∧ HS P T kp base ops o st st1 ∧ kD P T kp base ops K f (listed.setIfInBounds i true) st1) ∧ Steps P T kp base ops K f listed st l
theorem Cx {f : Nat} {listed : Array Bool} {st : St} : ∀ {l : List Nat}, Steps P T kp base ops K f listed st l → ∀ i ∈ l, ∃ o st1, ops[i]? = some o ∧ HS P T kp base ops o st st1 ∧ kD P T kp base ops K f (listed.setIfInBounds i true) st1
 | [], _, i, hi => by cases hi
 | j :: l, h, i, hi => by
   rcases List.mem_cons.1 hi with rfl | hi
   ·exact h.1
   ·exact Cx h.2 i hi
theorem bY {f : Nat} {listed : Array Bool} {st : St} (l : List Nat) (hr : Region.ready .any ops listed = l) (hne : l ≠ []) (h : Steps P T kp base ops K f listed st l) : kD P T kp base ops K (f + 1) listed st := by
 intro hsz hc hw;refine ⟨fun e => absurd (hr.symm.trans e) hne, fun i hi o ho => ?_⟩;obtain ⟨o', st1, h1, h2, h3⟩ := Cx h i (hr ▸ hi);rw [ho] at h1; cases h1;exact ⟨st1, h2, h3 Dw (qc hsz hc hi) (HS.wf hw h2)⟩
theorem kI {f : Nat} {listed : Array Bool} {st : St} (hr : Region.ready .any ops listed = []) (hk : K st) : kD P T kp base ops K f listed st := fun _ _ _ => EU hr hk
def jS (T : Tab) (base : Nat) (ops : Array Oper) (i : Nat) (st : St) : Option St := match ops[i]? with
 | some o => exec T base ops [o] st
 | none => none
theorem BO {i : Nat} {st st1 : St} (h : jS T base ops i st = some st1) : ∃ o, ops[i]? = some o ∧ HS P T kp base ops o st st1 := by
 unfold jS at h;split at h
 ·rename_i o ho;exact ⟨o, ho, zx h⟩
 ·cases h
theorem fH {f i : Nat} {listed : Array Bool} {st : St} {l : List Nat} (h : ∃ st1, jS T base ops i st = some st1 ∧ kD P T kp base ops K f (listed.setIfInBounds i true) st1) (t : Steps P T kp base ops K f listed st l) : Steps P T kp base ops K f listed st (i :: l) :=
 ⟨let ⟨st1, h1, h2⟩ := h; let ⟨o, ho, hs⟩ := BO h1; ⟨o, st1, ho, hs, h2⟩, t⟩
theorem aN {f : Nat} {listed : Array Bool} {st : St} (i : Nat) (hf : bN T ops listed i = true) (h : ∃ st1, jS T base ops i st = some st1 ∧ kD P T kp base ops K f (listed.setIfInBounds i true) st1) : kD P T kp base ops K (f + 1) listed st :=
 let ⟨st1, h1, h2⟩ := h; let ⟨_, ho, hs⟩ := BO h1; Ho i ho hf ⟨st1, hs, h2⟩
theorem step_append (hT : T.Ok P) {f i : Nat} {listed : Array Bool} {st : St} {rl : List Nat} {o : Oper} (ho : ops[i]? = some o) {c : Call} {x y : Operand} {t d : Nat} (id : Nat) {e n b : Nat} (fz : Bool) {zs : List Value} {xs ys : List (List C)} (h : eH ops o st.s = some true) (hop : o.op = .call c) (hc : c.callee = .builtin .append) (ha : c.args = #[x, y]) (ht : c.argTypes = #[t, t]) (hd : o.dst = some d)
 (hx : ev st.s x = .own id) (hm : st.m id = some (dW fz e n xs)) (hy : asC st.m (ev st.s y) = some (.sl ys)) (h1 : T.elem t = some (e, n)) (h2 : T.bytes e = some b) (h3 : T.zero e = some zs) (h4 : zs.length = n) (hkp : ¬ kp id) (hl : ∀ z ∈ ys, z.length = n) (hb : (xs.length + ys.length) * b ≤ 140737488355328) (hb0 : 0 < b)
 (hr : kD P T kp base ops K f (listed.setIfInBounds i true) ⟨upd (iy id st.s) d (.own id), upd (fq id st.m) id (some (dW fz e n (xs ++ ys)))⟩) (tl : Steps P T kp base ops K f listed st rl) : Steps P T kp base ops K f listed st (i :: rl) :=
 ⟨⟨o, _, ho, .eff (BI hT hkp ⟨h, hop, hc, ha, ht, hd, hx, hm, hy, h1, h2, h3, h4, hl, hb, sN hb hb0⟩), hr⟩, tl⟩
theorem Co {K' : St → Prop} (hk : ∀ st, K st → K' st) : ∀ {f : Nat} {listed : Array Bool} {st : St}, Runs P T kp base ops K f listed st → Runs P T kp base ops K' f listed st
 | 0, _, _, h => ⟨h.1, hk _ h.2⟩
 | _ + 1, _, _, h => ⟨fun e => hk _ (h.1 e), fun i hi o ho => let ⟨st1, h1, h2⟩ := h.2 i hi o ho; ⟨st1, h1, Co hk h2⟩⟩
theorem kD.mono {K' : St → Prop} (hk : ∀ st, K st → K' st) {f : Nat} {listed : Array Bool} {st : St} (h : kD P T kp base ops K f listed st) : kD P T kp base ops K' f listed st := fun a b c => Co hk (h a b c)
theorem yM {n : Nat} (hn : ops.size = n) : lY ops (Array.replicate n false) := fun k o hk h => by
 have hlt := (Array.getElem?_eq_some_iff.1 hk).1;rw [Array.getD_eq_getD_getElem?, Array.getElem?_replicate, if_pos (by omega)] at h;cases h
end
section
variable {l n' : Nat} {P : Go.Program} {T : Tab} {R : Ref} {n : Nat} {ds : List Deferred} {st : St} {K : Exit → St → Prop}
end
def aby (P : Go.Program) (f : FuncId) (args : List A) (m : Mem) (ch : List PanicEntry) : Prop :=
 ∀ (w0 : World) (I0 : Nat → Nat → Prop) (B : Nat → Value) (I : Nat → Nat → Prop) (w : World) (vals : List Value), MR w0 I0 B I m w → RVl B w I args vals →
   Calls P f vals.toArray w fun e w' => e = .panicked ch ∧ Below w.heap.size w w'
def XOk (P : Go.Program) (f : FuncId) (args : List A) (m : Mem) (ch : List PanicEntry) : Prop :=
 (∀ args w, (callFunc f args).run P w = .ok (.enter f args) w) ∧ ∀ m', (∀ j, Reach m args j → m' j = m j) → aby P f args m' ch
def Dk (P : Go.Program) (f : FuncId) (args : List A) (M : Mem) (D : List Nat) (ch : List PanicEntry) (M' : Mem) : Prop :=
 (∀ args w, (callFunc f args).run P w = .ok (.enter f args) w) ∧ (∀ j, (M j).isSome = true → j ∉ D → (M' j).isSome = true) ∧ (WFm M → WFm M') ∧
 ∀ (w0 : World) (I0 : Nat → Nat → Prop) (B : Nat → Value) (I : Nat → Nat → Prop) (w : World) (vals : List Value), MR w0 I0 B I M w → RVl B w I args vals →
   Calls P f vals.toArray w fun e w' => ∃ B' I', e = .panicked ch ∧ MR w0 I0 B' I' M' w' ∧ Ext w w' I I' ∧ (∀ j, (M j).isSome = true → j ∉ D → B' j = B j)
structure XS (P : Go.Program) (T : Tab) (kp : Nat → Prop) (ops : Array Oper) (o : Oper) (st : St) (ch : List PanicEntry) (st' : St) : Prop where
 run : ∀ (R : Ref) (n : Nat) (ds : List Deferred) (a : Act) (w : World) (K : Act → World → Prop) (Q : Exit → Act → World → Prop), R.keep = kp → SR R n ds st a w → (∀ a' w', SR R n ds st' a' w' → Q (.panic ch) a' w') →
  Region.wanted o (yielded ops a.tmps) = true ∧ o.wp P a w K Q
section
variable {P : Go.Program} {T : Tab} {kp : Nat → Prop} {ops : Array Oper}
theorem SR.below {R : Ref} {n : Nat} {ds : List Deferred} {st : St} {a : Act} {w w' : World} (hr : SR R n ds st a w) (hb : Below w.heap.size w w') : SR R n ds st a w' := by
 obtain ⟨B, I, hm, hx0, hkp, hs⟩ := hr.ex;have hE : Ext w w' I I := hm.ext hb (fun _ _ k => k);exact ⟨⟨B, I, hm.call hb, hx0.trans hE, hkp, fun t => (hs t).mono hE fun _ _ => rfl⟩, hr.ids, hr.size, hr.nn, hr.defs, hr.kept⟩
theorem jM {o : Oper} {st : St} {ch : List PanicEntry} {c : Call} {x : Operand} {f : FuncId} {ids : List Nat} {args : List A} (h : eH ops o st.s = some true) (hop : o.op = .call c) (hc : c.callee = .value x) (hx : ev st.s x = .fn f ids) (hb : ∀ j ∈ ids, ∃ ty cells, st.m j = some (.box ty cells))
 (ha : Cvs st.m (c.args.toList.map (ev st.s) ++ ids.map (A.ptr · 0)) args) (hk : XOk P f args st.m ch) : XS P T kp ops o st ch st := by
 refine ⟨fun R n ds a w K Q hR hr hK => ?_⟩
 obtain ⟨B, I, hm, hx0, hkp0, hs⟩ := hr.ex
 refine ⟨fC hs h, ?_⟩
 have hev := gM hs
 have hfv : a.eval x = .func (.func f) #[] (ids.map B).toArray := by have := hev x; rw [hx] at this; exact this
 have hrv := sV hm ha ((nS hev c.args.toList).append (mX hm hb))
 have hcl := hk.2 st.m (fun _ _ => rfl) R.w0 R.I0 B I w _ hm hrv
 unfold Oper.wp Oper.upon
 have hrun : (execOp a.eval o).run P w = .ok (.enter f (c.args.toList.map a.eval ++ ids.map B).toArray) w := by
  exact ZC
 rw [hrun]
 refine hcl.mono ?_
 rintro e w' ⟨rfl, hbl⟩
 exact hK _ _ (hr.below hbl)
theorem Bt {o : Oper} {st : St} {ch : List PanicEntry} {c : Call} {x : Operand} {f : FuncId} {ids : List Nat} {args : List A} (h : eH ops o st.s = some true) (hop : o.op = .call c) (hc : c.callee = .value x) (hx : ev st.s x = .fn f ids) (hb : ∀ j ∈ ids, ∃ ty cells, st.m j = some (.box ty cells))
 (ha : BU st.m (c.args.toList.map (ev st.s) ++ ids.map (A.ptr · 0)) args) (hk : ∀ m, XOk P f args m ch) : XS P T kp ops o st ch st := by
 refine ⟨fun R n ds a w K Q hR hr hK => ?_⟩
 obtain ⟨B, I, hm, hx0, hkp0, hs⟩ := hr.ex
 refine ⟨fC hs h, ?_⟩
 have hev := gM hs
 have hfv : a.eval x = .func (.func f) #[] (ids.map B).toArray := by have := hev x; rw [hx] at this; exact this
 have hrv := BN hm ha ((nS hev c.args.toList).append (mX hm hb))
 have hcl := (hk Mem.nil).2 Mem.nil (fun _ _ => rfl) R.w0 R.I0 B _ w _ (Kj hm) hrv
 unfold Oper.wp Oper.upon
 have hrun : (execOp a.eval o).run P w = .ok (.enter f (c.args.toList.map a.eval ++ ids.map B).toArray) w := by
  exact Z6
 rw [hrun]
 refine hcl.mono ?_
 rintro e w' ⟨rfl, hbl⟩
 exact hK _ _ (hr.below hbl)
theorem vQ {o : Oper} {st : St} {ch : List PanicEntry} {c : Call} {x : Operand} {f : FuncId} {ids : List Nat} {args : List A} {D : List Nat} {M' : Mem} (hkp : ∀ j ∈ D, ¬ kp j) (h : eH ops o st.s = some true) (hop : o.op = .call c) (hc : c.callee = .value x) (hx : ev st.s x = .fn f ids) (hb : ∀ j ∈ ids, ∃ ty cells, st.m j = some (.box ty cells))
 (ha : Cvs st.m (c.args.toList.map (ev st.s) ++ ids.map (A.ptr · 0)) args) (hk : Dk P f args st.m D ch M') : XS P T kp ops o st ch ⟨dw D st.s, M'⟩ := by
 obtain ⟨k1, k3, k4, k5⟩ := hk
 refine ⟨fun R n ds a w K Q hR hr hK => ?_⟩
 obtain ⟨B, I, hm, hx0, hkp0, hs⟩ := hr.ex
 refine ⟨fC hs h, ?_⟩
 have hev := gM hs
 have hfv : a.eval x = .func (.func f) #[] (ids.map B).toArray := by have := hev x; rw [hx] at this; exact this
 have hrv := sV hm ha ((nS hev c.args.toList).append (mX hm hb))
 have hcl := k5 R.w0 R.I0 B I w _ hm hrv
 unfold Oper.wp Oper.upon
 have hrun : (execOp a.eval o).run P w = .ok (.enter f (c.args.toList.map a.eval ++ ids.map B).toArray) w := by
  exact ZY
 rw [hrun]
 refine hcl.mono ?_
 rintro e w' ⟨B', I', rfl, h1, h2, h3⟩
 have nkd : ∀ j, R.keep j → j ∉ D := fun j hj hd => hkp j hd (hR ▸ hj)
 have hs' : ∀ t, RV B' w' I' (dw D st.s t) (a.tmps.getD t undef) := fun t => by
  exact abf
 exact hK _ _ ⟨⟨B', I', h1, hx0.trans h2, fun j hj => (h3 j (hr.kept j hj) (nkd j hj)).trans (hkp0 j hj), hs'⟩,
  fun t j hj => k3 j (hr.ids t j ((kM D st.s t).1 j hj).1) ((kM D st.s t).1 j hj).2, hr.size, hr.nn, by rw [show dfs ((⟨dw D st.s, M'⟩ : St).s DID) = dfs (st.s DID) from xG D st.s]; exact hr.defs, fun j hj => k3 j (hr.kept j hj) (nkd j hj)⟩
end
def abt (P : Go.Program) (T : Tab) (kp : Nat → Prop) (base : Nat) (ops : Array Oper) (l : List Oper) (st : St) (ch : List PanicEntry) (k : St → Prop) : Prop :=
 ∃ l1 o l2 st1 st2, l = l1 ++ o :: l2 ∧ RunL P T kp base ops l1 st st1 ∧ XS P T kp ops o st1 ch st2 ∧ k st2
section
variable {P : Go.Program} {T : Tab} {kp : Nat → Prop} {base : Nat} {ops : Array Oper}
variable (hT : T.Ok P) {R : Ref} {n : Nat} {ds : List Deferred}
include hT
theorem Jy (hd : ∀ o ∈ ops, ∀ d, o.dst = some d → d < n) {Q : Exit → Act → World → Prop} {i : Nat} {o : Oper} {st1 st2 : St} {ch : List PanicEntry} (ho : ops[i]? = some o) (hx : XS P T R.keep ops o st1 ch st2) (hQ : ∀ a w, SR R n ds st2 a w → Q (.panic ch) a w) :
 ∀ (l l2 : List Nat) (st : St) (a : Act) (w : World), Chain P T R.keep base ops l st st1 → SR R n ds st a w → wpOps P ops Q (l ++ i :: l2) a w
 | [], l2, st, a, w, h, hr => by
   cases h
   rw [List.nil_append, wpOps_cons];unfold wpOp;rw [ho];obtain ⟨hw, hgo⟩ := hx.run R n ds a w (wpOps P ops Q l2) Q rfl hr hQ;dsimp only;rw [if_pos hw];exact .inl hgo
 | j :: l, l2, st, a, w, h, hr => by
   cases h with
   | @cons _ o' _ _ st1' _ hi h1 t =>
     rw [List.cons_append, wpOps_cons];unfold wpOp;rw [hi];have hgo := h1.snd hT hr (hd o' (Array.mem_of_getElem? hi)) (K := wpOps P ops Q (l ++ i :: l2)) (Q := Q) (fun a' w' hr' => Jy hd ho hx hQ l l2 st1' a' w' t hr');exact Tf
omit hT in
theorem range_split {n i : Nat} (h : i < n) : List.range n = List.range' 0 i ++ i :: List.range' (i + 1) (n - i - 1) := by
 rw [List.range_eq_range', show n = i + (1 + (n - i - 1)) by omega, ← List.range'_append_1]
 congr 1
 rw [← List.range'_append_1];simp [List.range'_one, Nat.add_comm]
omit hT in
theorem uQ : ∀ {l : List Oper} {k : Nat} {st st' : St}, (∀ j x, l[j]? = some x → ops[k + j]? = some x) → RunL P T kp base ops l st st' → Chain P T kp base ops (List.range' k l.length) st st'
 | [], _, _, _, _, h => by cases h; exact .nil _
 | o :: l, k, _, _, hl, h => by
   cases h with
   | cons h t =>
     refine .cons (by simpa using hl 0 o rfl) h (uQ (fun j x hx => ?_) t)
     have := hl (j + 1) x oD
     rwa [show k + 1 + j = k + (j + 1) by omega]
theorem W.pan {id : Nat} {st : St} {K : Exit → St → Prop} {ch : List PanicEntry} (hd : jX n ops = true) (h : abt P T R.keep base ops ops.toList st ch (K (.panic ch))) : W P R n ds st (.region id ops false) K := fun a w hr => by
 obtain ⟨l1, o, l2, st1, st2, h1, h2, h3, h4⟩ := h;have hi : ops[l1.length]? = some o := by rw [← Array.getElem?_toList, h1]; simp
 have hlt := (Array.getElem?_eq_some_iff.1 hi).1;refine wp_region ?_;rw [range_split hlt];refine Jy hT (base := base) (iw hd) hi h3 (fun a w hr' => ⟨st2, h4, hr'⟩) _ _ st a w ?_ hr;refine uQ (k := 0) (fun j x hx => ?_) h2;rw [Nat.zero_add, ← Array.getElem?_toList, h1, List.getElem?_append_left (List.getElem?_eq_some_iff.1 hx).1];exact hx
end
theorem Oi {P : Go.Program} {T : Tab} {kp : Nat → Prop} {ops : Array Oper} {o : Oper} {st : St} {x : Operand} {t : TypeId} {u : Value} (h : eH ops o st.s = some true) (hop : o.op = .panic x) (hx : ∀ (B : Nat → Value) (w : World) (I : Nat → Nat → Prop) (v : Value), RV B w I (ev st.s x) v → v = .iface t u) : XS P T kp ops o st [{ v := .iface t u, recovered := false }] st := by
 refine ⟨fun R n ds a w K Q hR hr hK => ?_⟩;obtain ⟨B, I, hm, hx0, hkp0, hs⟩ := hr.ex;refine ⟨fC hs h, ?_⟩;have hv := hx B w I _ (gM hs x);unfold Oper.wp Oper.upon;have hrun : (execOp a.eval o).run P w = .halt (.panic (.iface t u)) w := by
  simp only [execOp, hop, hv];rfl
 rw [hrun];exact hK _ _ hr
theorem Xg {P : Go.Program} {T : Tab} {f : FuncId} {fn : Func} {c : Code} {args : List A} {ch : List PanicEntry} (hT : T.Ok P) (hf : P.funcs[f]? = some fn) (hn : (fn.name == "runtime.NumGoroutine") = false) (hb : fn.body = some c) (hd : args.all (fun a => a.ids.isEmpty && !(match a with | .defs _ => true | _ => false)) = true) (hle : decide (args.length ≤ fn.ntmps ∧ fn.ntmps ≤ DID) = true)
 (hW : ∀ R : Ref, R.keep = (fun _ => False) → W P R fn.ntmps [] ⟨entry args, Mem.nil⟩ c (fun e st => e = .panic ch ∧ dfs (st.s DID) = [])) (m : Mem) : XOk P f args m ch := by
 refine ⟨enters_of hf hn hb, fun m' _ => ?_⟩
 intro w0 I0 B I w vals hm hv
 have hd1 : ∀ a ∈ args, a.ids = [] := fun a ha => by have := List.all_eq_true.1 hd a ha; simp only [Bool.and_eq_true] at this; simpa using this.1
 have hd2 : ∀ a ∈ args, ∀ l, a ≠ .defs l := fun a ha l e => by have := List.all_eq_true.1 hd a ha; subst e; simp at this
 obtain ⟨hl1, hl2⟩ := of_decide_eq_true hle
 have hlen := lQ hv
 refine calls_of_wp hf hb ?_
 have h0 : SR ⟨w, I, w, I, B, fun _ => False⟩ fn.ntmps [] ⟨entry args, Mem.nil⟩ { tmps := vals.toArray ++ Array.replicate (fn.ntmps - vals.toArray.size) undef, defers := [] } w := by
  exact aaY
 refine wp_mono (hW _ rfl _ w h0) ?_
 rintro e a' w' ⟨st', ⟨rfl, hdn⟩, ⟨⟨B', I', hm', hx', -, hs'⟩, -, -, -, hds, -⟩⟩
 rw [hdn] at hds
 exact ⟨hds, rfl, hm'.below⟩
theorem JY {P : Go.Program} {T : Tab} (hT : T.Ok P) {f : FuncId} {fn : Func} {c : Code} {args : List A} {M : Mem} (D : List Nat) {ch : List PanicEntry} {M' : Mem} (hf : P.funcs[f]? = some fn) (hn : (fn.name == "runtime.NumGoroutine") = false) (hb : fn.body = some c)
 (hle : decide (args.length ≤ fn.ntmps ∧ fn.ntmps ≤ DID) = true) (hdf : args.all (fun a => !(match a with | .defs _ => true | _ => false)) = true) (hids : ∀ a ∈ args, ∀ j ∈ a.ids, (M j).isSome = true) (hsub : ∀ j, (M j).isSome = true → j ∉ D → (M' j).isSome = true) (hwm : WFm M → WFm M')
 (hW : WFm M → ∀ R : Ref, R.keep = (fun j => (M j).isSome = true ∧ j ∉ D) → W P R fn.ntmps [] ⟨entry args, M⟩ c (fun e st => e = .panic ch ∧ dfs (st.s DID) = [] ∧ MLe st.m M')) : Dk P f args M D ch M' := by
 refine ⟨enters_of hf hn hb, hsub, hwm, ?_⟩
 intro w0 I0 B I w vals hm hv
 have hWF : WFm M := hm.live
 have hd2 : ∀ a ∈ args, ∀ l, a ≠ .defs l := fun a ha l e => by have := List.all_eq_true.1 hdf a ha; subst e; simp at this
 obtain ⟨hl1, hl2⟩ := of_decide_eq_true hle
 have hlen := lQ hv
 refine calls_of_wp hf hb ?_
 have h0 : SR ⟨w0, I0, w, I, B, fun j => (M j).isSome = true ∧ j ∉ D⟩ fn.ntmps [] ⟨entry args, M⟩ { tmps := vals.toArray ++ Array.replicate (fn.ntmps - vals.toArray.size) undef, defers := [] } w := by
  exact aaR
 refine wp_mono (hW hWF _ rfl _ w h0) ?_
 rintro e a' w' ⟨st', ⟨rfl, hdn, hle⟩, ⟨⟨B', I', hm', hx', hkp', hs'⟩, -, -, -, hds, -⟩⟩
 rw [hdn] at hds
 have hsome : ∀ j o, M' j = some o → st'.m j = some o := fun j o ho => by
  rcases hle j with q | q
  ·rw [q] at ho; cases ho
  ·exact q.symm.trans ho
 have hwm' := hwm hWF
 have hm2 : MR w0 I0 B' I' M' w' := ⟨hm'.below, hm'.glob, hm'.base, hm'.old, hm'.there, fun j o ho => hm'.objs j o (hsome j o ho), fun j o ho => hm'.low j o (hsome j o ho), fun j o j' o' ho ho' => hm'.apart j o j' o' (hsome j o ho) (hsome j' o' ho'), fun j o ho i hi => hwm' j o ho i hi⟩
 exact ⟨hds, B', I', rfl, hm2, hx', fun j hj hd => hkp' j ⟨hj, hd⟩⟩
section
variable {P : Go.Program} {T : Tab} (hT : T.Ok P) {R : Ref} {n base : Nat} {ds : List Deferred} {ops : Array Oper} {ch : List PanicEntry}
include hT in
include hT in
end
section
variable {P : Go.Program} {T : Tab} {kp : Nat → Prop} {base f : Nat} {ops : Array Oper} {ch : List PanicEntry} {K Kp : St → Prop} {listed : Array Bool} {st : St}
end
def NT : Op → Bool
 | .move _ => true
 | .load .. => true
 | _ => false
theorem Hg {T : Tab} {s : Nat → A} {m : Mem} {id : Nat} {ty : TypeId} {x : Operand} {r : A} {ob : Option O} (hq : qv1 T s m id (.load ty x) = some (r, ob)) : ob = none := by
 simp only [qv1] at hq
 repeat' split at hq
 all_goals first | (cases hq; rfl) | (cases hq)
theorem Jd {T : Tab} {s : Nat → A} {m : Mem} {id : Nat} {ty : TypeId} {x : Operand} {r : A} {ob : Option O} (hq : qv2 T s m id (.load ty x) = some (r, ob)) : ob = none := by
 simp only [qv2] at hq
 repeat' split at hq
 all_goals first | (cases hq; rfl) | (cases hq)
theorem Lh {T : Tab} {s : Nat → A} {m : Mem} {id : Nat} {op : Op} {r : A} {ob : Option O} (h : NT op = true) (hq : qv T s m id op = some (r, ob)) : ob = none := by
 cases op with
 | move x => cases hq; rfl
 | load ty x =>
   unfold qv at hq;split at hq
   ·rename_i h1; cases hq; exact Hg h1
   ·exact Jd hq
 | _ => cases h
theorem Mh {P : Go.Program} {T : Tab} {kp : Nat → Prop} {base : Nat} {ops : Array Oper} {o : Oper} {st st' : St} (ht : NT o.op = true) (h : HS P T kp base ops o st st') : st'.m = st.m ∧ ∀ t, o.dst ≠ some t → st'.s t = st.s t := by
 have put : ∀ r : A, ∀ t, o.dst ≠ some t → eY st.s o.dst r t = st.s t := fun r t hne => by
  cases hd : o.dst with
  | none => rfl
  | some d => exact upd_ne _ _ (fun e => hne (by rw [hd, e]))
 cases h with
 | @val r ob h =>
   have hob : ob = none := by
    cases h with
    | skip => rfl
    | val _ hq _ _ => exact Lh ht hq
    | call => rfl
    | callF => rfl
    | callR => rfl
   subst hob;exact ⟨rfl, put r⟩
 | store h => have := h.op; rw [this] at ht; cases ht
 | eff h =>
   have := h.bar;cases hop : o.op <;> rw [hop] at ht this <;> simp [NT] at ht <;> simp [kind] at this
theorem BK {P : Go.Program} {T : Tab} {kp : Nat → Prop} {base : Nat} {ops : Array Oper} {need : List Nat} : ∀ {l : List Nat} {st st' : St}, (∀ i ∈ l, ∀ o, ops[i]? = some o → NT o.op = true ∧ ∀ t ∈ need, o.dst ≠ some t) → Chain P T kp base ops l st st' → st'.m = st.m ∧ ∀ t ∈ need, st'.s t = st.s t
 | [], _, _, _, h => by cases h; exact ⟨rfl, fun _ _ => rfl⟩
 | i :: l, _, _, hl, h => by
   cases h with
   | cons hi h t =>
     obtain ⟨h1, h2⟩ := hl i (by simp) _ hi;obtain ⟨q1, q2⟩ := Mh h1 h;obtain ⟨q3, q4⟩ := BK (need := need) (fun j hj => hl j (List.mem_cons_of_mem _ hj)) t;exact ⟨q3.trans q1, fun t ht => (q4 t ht).trans (q2 t (h2 t ht))⟩
def Nv (T : Tab) (ops : Array Oper) (p : Nat) (need : List Nat) : Bool :=
 decide (p < ops.size) && (List.range (p + 1)).all (IU T ops) && ((List.range ops.size).all fun k => decide (k ≤ p) || GN ops ops.size k p) && ((List.range p).all fun k => GN ops ops.size p k || (match ops[k]? with | some o => NT o.op && !(need.any fun t => o.dst == some t) | none => true))
theorem exists_least (f : Nat → Bool) : ∀ p, f p = false → ∃ i, i ≤ p ∧ f i = false ∧ ∀ j, j < i → f j = true := by
 intro p;induction p using Nat.strongRecOn with
 | ind p ih =>
   intro h;by_cases hj : ∃ j, j < p ∧ f j = false
   ·obtain ⟨j, h1, h2⟩ := hj;obtain ⟨i, h3, h4, h5⟩ := ih j h1 h2;exact ⟨i, by omega, h4, h5⟩
   ·exact ⟨p, Nat.le_refl _, h, fun j hlt => by
     cases hf : f j with
     | true => rfl
     | false => exact absurd ⟨j, hlt, hf⟩ hj⟩
section
variable {P : Go.Program} {T : Tab} (hT : T.Ok P) {R : Ref} {n base : Nat} {ds : List Deferred} {ops : Array Oper} {ch : List PanicEntry}
include hT
theorem Na {p : Nat} {need : List Nat} (hok : Nv T ops p need = true) (hd : ∀ o ∈ ops, ∀ d, o.dst = some d → d < n) {Q : Exit → Act → World → Prop} {stp : St} {op : Oper} (hop : ops[p]? = some op) (hx : ∀ st, (∀ t ∈ need, st.s t = stp.s t) → st.m = stp.m → ∃ st', XS P T R.keep ops op st ch st' ∧ ∀ a w, SR R n ds st' a w → Q (.panic ch) a w) :
 ∀ (fuel : Nat) (listed : Array Bool) (l : List Nat) (st : St) (a : Act) (w : World), l.length + 1 ≤ fuel → listed.size = ops.size → l.Pairwise (· < ·) → (∀ i, i ∈ l ↔ i < p ∧ listed.getD i true = false) → listed.getD p true = false → lY ops listed → SR R n ds st a w → Chain P T R.keep base ops l st stp →
   wpAny P .any ops Q fuel listed a w := by
 simp only [Nv, Bool.and_eq_true, decide_eq_true_eq] at hok
 obtain ⟨⟨⟨hp, hok1⟩, hok2⟩, hok3⟩ := hok
 have hokAt : ∀ k, k ≤ p → IU T ops k = true := fun k hk => List.all_eq_true.1 hok1 k (List.mem_range.2 (by omega))
 intro fuel
 induction fuel with
 | zero => intro listed l st a w hl; omega
 | succ fuel ih =>
   intro listed l st a w hl hsz hpw hmem hlp hc hr hch
   -- p, once all that it waits for has come up
   have ready_p : ∀ {i : Nat}, i ∈ Region.ready .any ops listed → i ≤ p := fun {i} hi => by
    obtain ⟨h1, oi, h2, h3⟩ := mem_ready.1 hi;have hlt := (Array.getElem?_eq_some_iff.1 h2).1;have := List.all_eq_true.1 hok2 i (List.mem_range.2 hlt);simp only [Bool.or_eq_true, decide_eq_true_eq] at this;refine this.resolve_right fun ha => ?_;have hjl := mV hc _ i oi h2 h3 ha;rw [vE hjl] at hlp;cases hlp
   constructor
   ·intro hnil
    exfalso
    -- the least that has not come up
    have least : ∀ i, i ≤ p → listed.getD i true = false → (∀ j, j < i → listed.getD j true = true) → i ∈ Region.ready .any ops listed := by
     intro i hip hli hbel;have hilt : i < ops.size := by omega
     rw [mem_ready];refine ⟨hli, ops[i], by simp [hilt], fun e he hb => ?_⟩;have hk := hokAt i hip;simp only [IU, Array.getElem?_eq_getElem hilt, Bool.and_eq_true, List.all_eq_true] at hk;have hlt := hk.1 e Gn;rw [hb] at hlt;simp at hlt;have hb1 := hbel e.on hlt;have hsz2 : e.on < listed.size := by omega
     rw [Array.getD_eq_getD_getElem?, Array.getElem?_eq_getElem hsz2] at hb1 ⊢;simpa using hb1
    obtain ⟨i, h1, h2, h3⟩ := exists_least (fun i => listed.getD i true) p hlp
    have := least i h1 h2 h3
    rw [hnil] at this
    cases this
   ·intro i hi;have hip := ready_p hi;obtain ⟨h1, oi, h2, h3⟩ := mem_ready.1 hi;have hlt := (Array.getElem?_eq_some_iff.1 h2).1;rcases Nat.lt_or_eq_of_le hip with hilt | rfl
    ·have hil := (hmem i).2 ⟨hilt, h1⟩;obtain ⟨l1, l2, rfl⟩ := List.append_of_mem hil;have hpp := List.pairwise_append.1 hpw;have hind : ∀ j ∈ l1, ∀ oj, ops[j]? = some oj → indep T ops oj oi = true := fun j hj oj hoj => by
      have hji : j < i := hpp.2.2 j hj i (by simp);have hk := hokAt i hip;exact Yf
     obtain ⟨st1, h4, h5⟩ := Chain.front h2 hr.wf hind hch;have hoi : oi ∈ ops := Array.mem_of_getElem? h2;have hset : ∀ k, (listed.setIfInBounds i true).getD k true = if k = i then true else listed.getD k true := fun k => by
      exact aaU
     have hsetf : ∀ k, listed.getD k false = true → (listed.setIfInBounds i true).getD k false = true := fun k hk => by
      exact acz
     unfold wpOp;rw [h2];have hgo := h4.snd hT hr (hd oi hoi) (K := wpAny P .any ops Q fuel (listed.setIfInBounds i true)) (Q := Q) (fun a' w' hr' => by
      refine ih _ (l1 ++ l2) st1 a' w' ?_ Dw (hpw.sublist (by simp)) (fun k => ?_) ?_ (fun k o ho hkl e he hb => ?_) hr' h5
      ·simp at hl ⊢; omega
      ·exact YC
      ·rw [hset, if_neg (by omega)]; exact hlp
      ·rw [hset] at hkl;split at hkl
       ·exact FZ
       ·exact hsetf _ (hc k o ho hkl e he hb))
     exact Tf
    ·have hoo : oi = op := Option.some.inj (h2.symm.trans hop);subst hoo;obtain ⟨q1, q2⟩ := BK (need := need) (fun j hj o ho => by
      obtain ⟨hj1, hj2⟩ := (hmem j).1 hj;have := List.all_eq_true.1 hok3 j (List.mem_range.2 hj1);rw [ho] at this;simp only [Bool.or_eq_true, Bool.and_eq_true, Bool.not_eq_true'] at this;rcases this with ha | ⟨ha, hb⟩
      ·exfalso;have hjl := mV hc _ i oi h2 h3 ha;rw [vE hjl] at hj2;cases hj2
      ·refine ⟨ha, fun t ht e => ?_⟩;rw [List.any_eq_false] at hb;exact hb t ht (by rw [e]; simp)) hch
     obtain ⟨st', hx1, hx2⟩ := hx st (fun t ht => (q2 t ht).symm) q1.symm;unfold wpOp;rw [h2];obtain ⟨hw, hgo⟩ := hx1.run R n ds a w (wpAny P .any ops Q fuel (listed.setIfInBounds i true)) Q rfl hr hx2;dsimp only;rw [if_pos hw];exact .inl hgo
end
theorem W.tK {P : Go.Program} {T : Tab} (hT : T.Ok P) {R : Ref} {n : Nat} {ds : List Deferred} {ops : Array Oper} {ch : List PanicEntry} {base id : Nat} {st : St} {K : Exit → St → Prop} (p : Nat) {op : Oper} (hd : jX n ops = true) (hop : ops[p]? = some op)
 (h : je P T R.keep base ops (ops.toList.take p) st (fun st1 => ∃ st2, XS P T R.keep ops op st1 ch st2 ∧ K (.panic ch) st2)) : W P R n ds st (.region id ops false) K := by
 obtain ⟨st1, h1, st2, h2, h3⟩ := h
 refine W.pan hT (base := base) hd ⟨ops.toList.take p, op, ops.toList.drop (p + 1), st1, st2, ?_, h1, h2, h3⟩
 have hlt := (Array.getElem?_eq_some_iff.1 hop).1
 have : ops.toList[p]? = some op := by rw [Array.getElem?_toList]; exact hop
 obtain ⟨hl, he⟩ := List.getElem?_eq_some_iff.1 this
 rw [← he, ← List.drop_eq_getElem_cons hl, List.take_append_drop]
theorem W.yh {P : Go.Program} {T : Tab} (hT : T.Ok P) {R : Ref} {n : Nat} {ds : List Deferred} {ops : Array Oper} {ch : List PanicEntry} {base id : Nat} {st : St} {K : Exit → St → Prop} (p : Nat) (need : List Nat) {op : Oper} (hm : P.follows .mixedOrders = true) (hok : Nv T ops p need = true) (hd : jX n ops = true) (hop : ops[p]? = some op)
 (h : je P T R.keep base ops (ops.toList.take p) st (fun stp => ∀ st', (∀ t ∈ need, st'.s t = stp.s t) → st'.m = stp.m → ∃ st2, XS P T R.keep ops op st' ch st2 ∧ K (.panic ch) st2)) : W P R n ds st (.region id ops true) K := fun a w hr => by
 obtain ⟨stp, h1, hx⟩ := h
 have hp : p < ops.size := (Array.getElem?_eq_some_iff.1 hop).1
 have hch : Chain P T R.keep base ops (List.range p) st stp := by
  have h1 := uQ (P := P) (T := T) (kp := R.keep) (base := base) (ops := ops) (k := 0) (l := ops.toList.take p) (fun j x hx => by
   rw [Nat.zero_add, ← Array.getElem?_toList];rw [List.getElem?_take] at hx;split at hx
   ·exact hx
   ·cases hx) h1
  have h2 : (ops.toList.take p).length = p := by rw [List.length_take, Array.length_toList]; omega
  rw [h2] at h1;rw [List.range_eq_range']; exact h1
 refine wp_region_any hm (Na (ch := ch) hT hok (iw hd) hop (fun st' h1 h2 => ?_) _ _ (List.range p) st a _ ?_ (by simp) List.pairwise_lt_range (fun i => ?_) ?_ (yM rfl) (hr.below (Below.refl _ _).drew) hch)
 ·obtain ⟨st2, h3, h4⟩ := hx st' h1 h2
  exact ⟨st2, h3, fun a w hr' => ⟨st2, h4, hr'⟩⟩
 ·simp; omega
 ·rw [List.mem_range]
  refine ⟨fun hi => ⟨hi, ?_⟩, fun hi => hi.1⟩
  have : i < ops.size := by omega
  simp [this]
 ·simp [hp]
def TOk (P : Go.Program) (f : FuncId) (args : List A) (m : Mem) (ch : List PanicEntry) : Option A → Prop
 | some r => COk P f args m r
 | none => XOk P f args m ch
theorem wC {P : Go.Program} {T : Tab} (hT : T.Ok P) {f : FuncId} {fn : Func} {c : Code} {l : List ResultVar} {args : List A} {ch : List PanicEntry} (r : Option A) (hf : P.funcs[f]? = some fn) (hn : (fn.name == "runtime.NumGoroutine") = false) (hb : fn.body = some c) (hl : fn.results.toList = l) (hd : args.all (fun a => a.ids.isEmpty && !(match a with | .defs _ => true | _ => false)) = true) (hr : ∀ x, r = some x → x.ids = []) (hle : decide (args.length ≤ fn.ntmps ∧ fn.ntmps ≤ DID) = true)
 (hW : ∀ R : Ref, R.keep = (fun _ => False) → W P R fn.ntmps [] ⟨entry args, Mem.nil⟩ c (fun e st => dfs (st.s DID) = [] ∧ match r with | some x => (e = .normal ∨ e = .ret) ∧ aU T st l = some x | none => e = .panic ch)) (m : Mem) : TOk P f args m ch r := by
 cases r with
 | some x => exact aS hT hf hn hb hl hd (hr x rfl) hle (fun R hR => W.mono (hW R hR) fun e st ⟨h1, h2, h3⟩ => ⟨h2, h1, h3⟩) m
 | none => exact Xg hT hf hn hb hd hle (fun R hR => W.mono (hW R hR) fun e st ⟨h1, h2⟩ => ⟨h2, h1⟩) m
def YO (P : Go.Program) (f : FuncId) (args : List A) (M : Mem) (D : List Nat) (ch : List PanicEntry) (Mx : Mem) : Option (A × Mem) → Prop
 | some (r, M') => dJ P f args M D r M'
 | none => Dk P f args M D ch Mx
theorem NG {P : Go.Program} {T : Tab} (hT : T.Ok P) {f : FuncId} {fn : Func} {c : Code} {l : List ResultVar} {args : List A} {M : Mem} (D : List Nat) {ch : List PanicEntry} {Mx : Mem} (r : Option (A × Mem)) (hf : P.funcs[f]? = some fn) (hn : (fn.name == "runtime.NumGoroutine") = false) (hb : fn.body = some c) (hl : fn.results.toList = l)
 (hle : decide (args.length ≤ fn.ntmps ∧ fn.ntmps ≤ DID) = true) (hdf : args.all (fun a => !(match a with | .defs _ => true | _ => false)) = true) (hids : ∀ a ∈ args, ∀ j ∈ a.ids, (M j).isSome = true)
 (hr : ∀ x M', r = some (x, M') → (∀ j ∈ x.ids, (M' j).isSome = true) ∧ (∀ j, (M j).isSome = true → (M' j).isSome = true) ∧ (WFm M → WFm M')) (hsx : ∀ j, (M j).isSome = true → j ∉ D → (Mx j).isSome = true) (hwx : WFm M → WFm Mx)
 (hW : WFm M → ∀ R : Ref, R.keep = (fun j => (M j).isSome = true ∧ j ∉ D) → W P R fn.ntmps [] ⟨entry args, M⟩ c (fun e st => dfs (st.s DID) = [] ∧ match r with | some (x, M') => (e = .normal ∨ e = .ret) ∧ resE T st l = some x ∧ MLe st.m M' | none => e = .panic ch ∧ MLe st.m Mx)) : YO P f args M D ch Mx r := by
 match r, hr, hW with
 | some (x, M'), hr, hW =>
   obtain ⟨h1, h2, h3⟩ := hr x M' rfl;exact jN hT D hf hn hb hl hle hdf hids h1 h2 h3 (fun hWF R hR => W.mono (hW hWF R hR) fun e st ⟨q1, q2, q3, q4⟩ => ⟨q2, q1, q3, q4⟩)
 | none, hr, hW =>
   exact JY hT D hf hn hb hle hdf hids hsx hwx (fun hWF R hR => W.mono (hW hWF R hR) fun e st ⟨q1, q2, q3⟩ => ⟨q2, q1, q3⟩)
theorem EP {m : Mem} : ∀ caps : List (List C), Cvs m (caps.map A.rptr) (caps.map A.rptr)
 | [] => trivial
 | _ :: l => ⟨dG, EP l⟩
theorem iC {α : Type} {p : α → Bool} {l : List α} (h : l.any p = false) : dO p l = -1 := by
 induction l with
 | nil => rfl
 | cons x l ih =>
   simp only [List.any_cons, Bool.or_eq_false_iff] at h;unfold dO;rw [if_neg (by simp [h.1]), ih h.2]; simp
theorem zn {α : Type} {p : α → Bool} {l : List α} {k : Nat} {x : α} (h : (l.take k).any p = false) (hx : l[k]? = some x) (hp : p x = true) : dO p l = k := by
 induction l generalizing k with
 | nil => simp at hx
 | cons y l ih =>
   unfold dO;cases k with
   | zero => simp at hx; subst hx; simp [hp]
   | succ k =>
     simp only [List.take_succ_cons, List.any_cons, Bool.or_eq_false_iff] at h;rw [if_neg (by simp [h.1]), ih h.2 oD];rw [if_neg (by omega)]; simp
theorem mP {α : Type} (p : α → Bool) (l : List α) : decide ((0 : Int) ≤ dO p l) = l.any p := by
 cases h : l.any p with
 | false => rw [iC h]; rfl
 | true =>
   obtain ⟨x, hx, hp⟩ := List.any_eq_true.1 h;have hge := sW p l;by_cases h1 : dO p l = -1
   ·exfalso;have : ∀ l : List α, x ∈ l → dO p l ≠ -1 := by
     intro l;induction l with
     | nil => intro h; simp at h
     | cons y l ih =>
       intro h;unfold dO;by_cases hy : p y = true
       ·rw [if_pos hy]; decide
       ·rw [if_neg hy];rcases List.mem_cons.1 h with rfl | h
        ·exact absurd hp hy
        ·have := ih h;have h3 := sW p l;rw [if_neg this]; omega
    exact this l hx h1
   ·simp; omega
theorem Fp (l : List Class) (f : FuncId) (caps : List (List C)) (p : Class → Bool) (hlen : l.length ≤ 1000000000000) (hk : ∀ x ∈ l, ∀ m, COk Tryz.prog f (.agg (au x) :: caps.map A.rptr) m (.c (.bool (p x)))) (m : Mem) : COk Tryz.prog 63 [.c (.sl (l.map au)), .fnR f caps] m (.c (.int .i64 (dO p l))) := by
 refine (aS ah Tryz.func63 (by kernel_rfl) rfl rfl (by rfl) (by rfl) (by rfl) (fun R hkeep => ?_) m);refine W.go ?_;refine W.loop (ι := Nat) (fun k => ⟨upd (upd (upd (upd (upd (fun _ => .top) 0 (.c (.sl (l.map au)))) 1 (.fnR f caps)) 4 (.c (.int .i64 0))) 7 (.c (.int .i64 l.length))) 8 (.c (.int .i64 k)), Mem.nil⟩) (fun k => k ≤ l.length ∧ (l.take k).any p = false) (fun k => l.length - k) 0 ?start ⟨Nat.zero_le _, rfl⟩ ?round
 case start =>
  exact Ae
 case round =>
  rintro k ⟨hkl, hno⟩;refine W.go ?_;refine W.cond rfl ?_ ?_
  ·intro hlt;replace hlt := dtl hlt;obtain ⟨x, hx⟩ : ∃ x, l[k]? = some x := ⟨_, List.getElem?_eq_getElem hlt⟩;refine W.go ?_;refine zm1 ?_;refine aj 5 JQ ?_;refine X3 ?_;refine W.cond rfl ?_ ?_
   ·intro hp;refine zm6 ?_;simp only [Tryz.f63, aU, ay, toT, fin, exb, simprocAttr];rw [zn hno hx hp]
   ·exact W9
  ·intro hge;replace hge := dnl hge;obtain rfl : k = l.length := by omega
   rw [List.take_length] at hno;refine zm6 ?_;simp only [Tryz.f63, aU, ay, toT, fin, exb, simprocAttr];rw [iC hno]
theorem qN (l : List Class) (f : FuncId) (caps : List (List C)) (p : Class → Bool) (hlen : l.length ≤ 1000000000000) (hk : ∀ x ∈ l, ∀ m, COk Tryz.prog f (.agg (au x) :: caps.map A.rptr) m (.c (.bool (p x)))) (m : Mem) : COk Tryz.prog 32 [.c (.sl (l.map au)), .fnR f caps] m (.c (.bool (l.any p))) := by
 refine (aS ah Tryz.func32 (by kernel_rfl) rfl rfl (by rfl) (by rfl) (by rfl) (fun R hkeep => ?_) m);refine W.go ?_;refine zm1 ?_;refine xs0 2 ?_;refine av rfl rfl rfl rfl rfl (by simp) cw2 (Fp l f caps p hlen hk _) ?_;refine xe0 ?_;refine zm6 ?_;simp only [Tryz.f32, aU, ay, toT, fin, exb, simprocAttr];rw [mP p l]
theorem DV (l : List Method) (f : FuncId) (caps : List (List C)) (p : Method → Bool) (hlen : l.length ≤ 1000000000000) (hk : ∀ x ∈ l, ∀ m, COk Tryz.prog f (.agg (aI x) :: caps.map A.rptr) m (.c (.bool (p x)))) (m : Mem) : COk Tryz.prog 67 [.c (.sl (l.map aI)), .fnR f caps] m (.c (.int .i64 (dO p l))) := by
 refine (aS ah Tryz.func67 (by kernel_rfl) rfl rfl (by rfl) (by rfl) (by rfl) (fun R hkeep => ?_) m);refine W.go ?_;refine W.loop (ι := Nat) (fun k => ⟨upd (upd (upd (upd (upd (fun _ => .top) 0 (.c (.sl (l.map aI)))) 1 (.fnR f caps)) 4 (.c (.int .i64 0))) 7 (.c (.int .i64 l.length))) 8 (.c (.int .i64 k)), Mem.nil⟩) (fun k => k ≤ l.length ∧ (l.take k).any p = false) (fun k => l.length - k) 0 ?start ⟨Nat.zero_le _, rfl⟩ ?round
 case start =>
  exact Ae
 case round =>
  rintro k ⟨hkl, hno⟩;refine W.go ?_;refine W.cond rfl ?_ ?_
  ·intro hlt;replace hlt := dtl hlt;obtain ⟨x, hx⟩ : ∃ x, l[k]? = some x := ⟨_, List.getElem?_eq_getElem hlt⟩;refine W.go ?_;refine zm1 ?_;refine aj 5 TW ?_;refine X3 ?_;refine W.cond rfl ?_ ?_
   ·intro hp;refine zm6 ?_;simp only [Tryz.f67, aU, ay, toT, fin, exb, simprocAttr];rw [zn hno hx hp]
   ·exact W9
  ·intro hge;replace hge := dnl hge;obtain rfl : k = l.length := by omega
   rw [List.take_length] at hno;refine zm6 ?_;simp only [Tryz.f67, aU, ay, toT, fin, exb, simprocAttr];rw [iC hno]
theorem Md (d : Class) (x : Class) (m : Mem) : COk Tryz.prog 65 [.agg (au d), .rptr (au x)] m (.c (.bool (d.name.toList == x.super.toList))) := by
 refine (aS ah Tryz.func65 (by kernel_rfl) rfl rfl (by rfl) (by rfl) (by rfl) (fun R hkeep => ?_) m);refine OJ ?_;refine W.rt ?_;simp only [Tryz.f65, aU, ay, toT, fin, exb, simprocAttr, au]
theorem KI (o : Method) (x : Method) (m : Mem) : COk Tryz.prog 68 [.agg (aI o), .rptr (aI x)] m (.c (.bool (o.name.toList == x.name.toList))) := by
 refine (aS ah Tryz.func68 (by kernel_rfl) rfl rfl (by rfl) (by rfl) (by rfl) (fun R hkeep => ?_) m);refine Xx ?_;refine W.rt ?_;simp only [Tryz.f68, aU, ay, toT, fin, exb, simprocAttr, aI]
theorem Dp (l : List Slot) (hlen : l.length ≤ 1000000000) (m : Mem) : COk Tryz.prog 66 [.c (.sl (l.map aJ))] m (.c (.sl ((dD l).map cStr))) := by
 refine (aS ah Tryz.func66 (by kernel_rfl) rfl rfl (by rfl) (by rfl) (by rfl) (fun R hkeep => ?_) m);refine W.go ?_;refine W.mZ 2 2 9 1 rfl rfl ?_;refine W.go ?_;refine W.loop (ι := Nat) (fun k => ⟨upd (upd (upd (upd (fun _ => .top) 2 (.own 2)) 5 (.c (.sl (l.map aJ)))) 6 (.c (.int .i64 l.length))) 7 (.c (.int .i64 k)), upd Mem.nil 2 (some (.arr 9 1 ((dD (l.take k)).map cStr)))⟩) (fun k => k ≤ l.length) (fun k => l.length - k) 0 ?start (Nat.zero_le _) ?round
 case start =>
  refine iM ?sle ?mle (aQ hkeep)
  case mle => repeat (first | exact aV _ | exact aF _ | refine aT ?_ (by first | rfl | (simp only [ak, aB, Nat.reduceEqDiff, reduceIte, List.take_zero, dD, List.map_nil]; done)))
  case sle => repeat (first | exact aM _ | exact aH _ | refine aL ?_ (by first | rfl | (simp only [ak, aD, aC, Nat.reduceEqDiff, reduceIte, List.take_zero, dD, List.map_nil]; done)))
 case round =>
  intro k hk;refine W.go ?_;refine W.cond rfl ?_ ?_
  ·intro hlt;replace hlt := dtl hlt;obtain ⟨x, hx⟩ : ∃ x, l[k]? = some x := ⟨_, List.getElem?_eq_getElem hlt⟩
   repeat (first | refine W.q ?_ | refine W.g ?_ JX)
   refine zm1 ?_;refine xs0 4 ?_;refine cK ah 2 rfl rfl rfl rfl rfl rfl rfl rfl nR rfl rfl rfl rfl (cu hkeep) (by simp) (by simp [dD]; omega) (by decide) ?_;refine mU ?_;refine Je ?_;refine iM ?sle ?mle (aQ hkeep)
   case mle => repeat (first | exact aV _ | exact aF _ | refine aT ?_ (by first | rfl | (simp only [ak, aB, Nat.reduceEqDiff, reduceIte, aP (show k + 1 < 9223372036854775808 by omega), yK hx, List.map_append, List.map_cons, List.map_nil, cStr]; done)))
   case sle => repeat (first | exact aM _ | exact aH _ | refine aL ?_ (by first | rfl | (simp only [ak, aD, aC, Nat.reduceEqDiff, reduceIte, aP (show k + 1 < 9223372036854775808 by omega), yK hx, List.map_append, List.map_cons, List.map_nil, cStr]; done)))
  ·intro hge;replace hge := dnl hge;obtain rfl : k = l.length := by omega
   refine zm6 ?_;simp only [Tryz.f66, aU, ay, toT, fin, exb, simprocAttr];rw [List.take_length]
theorem QB {w : World} {I : Nat → Nat → Prop} {v : Value} {l : List ByteArray} (hI : ∀ b o, I b o → b < w.heap.size) (h : RC w I v (.sl (l.map cStr))) : GX w v l ∧ ∀ s ∈ l, s.size ≤ maxLen := by
 cases h with
 | @sl a n cap e _ f hn hc hm hl ha hr =>
   have key : ∀ i x, l[i]? = some x → ∃ b off, a = some ⟨b, off, none⟩ ∧ b < w.heap.size ∧ w.cell? ⟨b, off + i, none⟩ = some (.string x) ∧ x.size ≤ gP := fun i x hx => by
    have hx' : (l.map cStr)[i]? = some (cStr x) := by simp [hx]
    have he : e = 1 := (hl _ (List.mem_of_getElem? hx')).symm;subst he;obtain ⟨b, off, ea, hcell⟩ := ha i _ hx';have h0 := RC.toStr (hr i 0 _ _ hx' rfl);have h1 := hcell 0 (by decide);rw [h0.1] at h1;simp only [Nat.mul_one, Nat.add_zero] at h1;exact ⟨b, off, ea, hI _ _ h1.1, h1.2, h0.2⟩
   refine ⟨⟨a, n, cap, rfl, by simpa using hn, by unfold maxLen at hm; omega, fun i x hx => let ⟨b, off, h1, h2, h3, _⟩ := key i x hx; ⟨b, off, h1, h2, h3⟩⟩, fun s hs => ?_⟩;obtain ⟨i, hi⟩ := List.getElem?_of_mem hs;obtain ⟨b, off, h1, h2, h3, h4⟩ := key i s hi;unfold gP at h4; unfold maxLen; omega
theorem zq (l : List ByteArray) (hl : l.length ≤ 1000000000000) (m : Mem) : COk Tryz.prog 31 [.c (.sl (l.map cStr))] m (.c (.bool (jT l))) := by
 refine ⟨enters_of Tryz.func31 (by kernel_rfl) rfl, rfl, fun m' _ => ?_⟩;intro w0 I0 B I w vals hm hv;match vals, hv with
 | [v], ⟨h1, _⟩ =>
   obtain ⟨h2, h3⟩ := QB hm.there h1;refine (NH v l w h2 hl h3).mono ?_;exact NV
theorem Ox (x y : Method) (m : Mem) : COk Tryz.prog 69 [.agg (aI x), .agg (aI y)] m (.c (.bool (gH x y))) := by
 refine ⟨enters_of Tryz.func69 (by kernel_rfl) rfl, rfl, fun m' _ => ?_⟩;intro w0 I0 B I w vals hm hv;match vals, hv with
 | [v, u], ⟨h1, h2, _⟩ =>
   obtain ⟨vs, rfl, h1⟩ := h1;obtain ⟨us, rfl, h2⟩ := h2;refine (Mk x y vs us (max (zy x) (zy y)) w (uF hm.there (Nat.le_max_left _ _) h1) (uF hm.there (Nat.le_max_right _ _) h2)).mono ?_;exact NV
section
variable {w0 w w' : World} {I0 I : Nat → Nat → Prop} {B : Nat → Value} {mem : Mem}
theorem MR.NS (h : MR w0 I0 B I mem w) {id : Nat} (hid : mem id = none) (x : Obj) :
 MR w0 I0 (upd B id (.pointer (some ⟨w.heap.size, 0, none⟩))) I (upd mem id (some (.raw x))) (w.alloc x) :=
 h.alloc hid ⟨w.heap.size, upd_same .., heap_alloc_new _ _, fun p hp => by have := h.there _ _ hp; omega⟩ (fun k hk => by
  obtain ⟨off, hk⟩ := hk;rw [upd_same] at hk;cases hk; rfl) (fun j hj => by simp [O.ids] at hj)
theorem MR.xH (h : MR w0 I0 B I mem w) {id b : Nat} {x : Obj} (hid : mem id = some (.raw x)) (hB : B id = .pointer (some ⟨b, 0, none⟩)) (y : Obj) :
 MR w0 I0 B I (upd mem id (some (.raw y))) (w.putObj b y) ∧ Ext w (w.putObj b y) I I := by
 have hf : foot B id (.raw x) b := ⟨0, hB⟩
 obtain ⟨l0, l1⟩ := h.low id _ hid b hf
 obtain ⟨b', e1, hx, hI⟩ := h.objs id _ hid
 rw [hB] at e1; cases e1
 refine h.turn hid hf (fun k hk => ?_) hI rfl rfl rfl ?_ (fun k hk => World.putObj_heap_other hk) (fun i hi => by simp [O.ids] at hi) (fun _ => ⟨b, hB, World.putObj_heap_same l1, hI⟩)
 ·obtain ⟨off, hk⟩ := hk
  rw [hB] at hk; cases hk; rfl
 ·show (w.heap.setIfInBounds _ _).size = _
  simp
theorem MR.Hy (h : MR w0 I0 B I mem w) {id : Nat} {o : O} (hid : mem id = some o) (hb : ∃ b, B id = .pointer (some ⟨b, 0, none⟩) ∧ (∀ p, ¬ I b p) ∧ ∀ k, foot B id o k ↔ k = b) : MR w0 I0 B I (upd mem id (some .hole)) w := by
 obtain ⟨b, hB, hI, hf⟩ := hb;exact (h.turn (o' := .hole) hid ((hf b).2 rfl) (fun k hk => by obtain ⟨off, hk⟩ := hk; rw [hB] at hk; cases hk; rfl) hI rfl rfl rfl rfl (fun _ _ => rfl) (fun i hi => by simp [O.ids] at hi) (fun _ => ⟨b, hB, hI⟩)).1
theorem MR.Ms (h : MR w0 I0 B I mem w) {id b : Nat} {x : Obj} (hid : mem id = some .hole) (hB : B id = .pointer (some ⟨b, 0, none⟩)) (hx : w.heap[b]? = some x) : MR w0 I0 B I (upd mem id (some (.raw x))) w := by
 obtain ⟨b', e1, hI⟩ := h.objs id _ hid;rw [hB] at e1; cases e1;exact (h.turn (o' := .raw x) hid ⟨0, hB⟩ (fun k hk => by obtain ⟨off, hk⟩ := hk; rw [hB] at hk; cases hk; rfl) hI rfl rfl rfl rfl (fun _ _ => rfl) (fun i hi => by simp [O.ids] at hi) (fun _ => ⟨b, hB, hx, hI⟩)).1
end
def zk (fn : FuncId) (tmps : Array Value) (ps : Array Tmp) (assign body : Code) (D : Nat) (st : LoopState) (pe : Option Code) : Obj :=
 .loop { state := st, pending := pe, fn, tmps, params := ps, assign, body, defers := D }
end V
end Go.Proofs.YtgaipdillmleeaaGreat
end
section
namespace Go.Proofs.YtgaipdillmleeaaGreat
namespace V
open Go.RowKit Go.Shelf
attribute [local go_sem] Oper.semAt_some
def Ke (b2 : Nat) (J : Nat → (Nat → Nat → Prop) → World → Prop) : Prop := ∀ k I W W' row, J k I W → W.grownBy W' row → (∀ r, row = some r → r = b2) → J k I W'
theorem yJ {w : World} {I : Nat → Nat → Prop} {a : Option Addr} {N cap : Nat} {cs : List Class} (h : RC w I (.slice a N cap) (.sl (cs.map au))) {j : Nat} {c : Class} (hc : cs[j]? = some c) :
 ∃ b off fv mv, a = some ⟨b, off, none⟩ ∧ RCs w I [.string c.name, .string c.super, fv, mv] (au c) ∧ fZ w b (off + j * 4) [.string c.name, .string c.super, fv, mv] := by
 cases h with
 | @sl _ _ _ e _ f hn hcp hm hl ha hr =>
   have hx : (cs.map au)[j]? = some (au c) := by simp [hc]
   have he : e = 4 := (hl _ (List.mem_of_getElem? hx)).symm;subst he;obtain ⟨b, off, ea, hcell⟩ := ha j _ hx;have h0 := RC.toStr (hr j 0 _ _ hx rfl);have h1 := RC.toStr (hr j 1 _ _ hx rfl);have r0 := hr j 0 _ _ hx rfl;have r1 := hr j 1 _ _ hx rfl;have r2 := hr j 2 _ _ hx rfl;have r3 := hr j 3 _ _ hx rfl;rw [h0.1] at r0;rw [h1.1] at r1;refine ⟨b, off, f j 2, f j 3, ea, ⟨r0, r1, r2, r3, trivial⟩, ?_, ?_, ?_, ?_, trivial⟩
   ·have := (hcell 0 (by decide)).2; rw [h0.1] at this; exact this
   ·have := (hcell 1 (by decide)).2; rw [h1.1] at this; exact this
   ·exact (hcell 2 (by decide)).2
   ·exact (hcell 3 (by decide)).2
set_option maxRecDepth 100000 in
set_option maxHeartbeats 4000000 in
theorem aa2 (n : Nat) (hn : 1 ≤ n) (l b1 b2 : Nat) (cv mv : Value) (cs : List Class) (name : ByteArray) (hlen : cs.length ≤ 1000000000) (J : Nat → (Nat → Nat → Prop) → World → Prop) (Jx : World → Prop)
 (hJ : Ke b2 J) (h12 : b1 ≠ b2)
 (hJR : ∀ k I W, J k I W → (∀ b o, I b o → b < W.heap.size) ∧ RC W I cv (.sl (cs.map au)) ∧ W.heap[b1]? = some (.cells #[cv, mv] 25))
 (hY : ∀ k I W j c vs, J k I W → (upX cs (cs.length + 1) 0 name)[k]? = some (k, j) → cs[j]? = some c → RCs W I vs (au c) → YieldAt Fence.wide (n - 1) Tryz.prog l #[.int .i64 (k : Int), .agg vs.toArray] W fun e W' =>
   (e = .returned (.bool true) ∧ (∃ I', J (k + 1) I' W') ∧ W'.heap[b2]? = W.heap[b2]?) ∨ (e = .returned (.bool false) ∧ Jx W'))
 (W : World) (I0 : Nat → Nat → Prop) (hb2 : W.heap[b2]? = some (.cells #[.string name] 9)) (h0 : J 0 I0 W) :
 CallsIn Fence.wide n Tryz.prog 112 #[.func (.yield l) #[] #[], .pointer (some ⟨b1, 0, none⟩), .pointer (some ⟨b2, 0, none⟩)] W fun e W' => (∃ v, e = .returned v) ∧
  ((∃ I, J (upX cs (cs.length + 1) 0 name).length I W') ∨ Jx W') := by
 obtain ⟨hIW, hRW, hb1⟩ := hJR _ _ _ h0
 obtain ⟨d, hRC⟩ := Bo (w := W) (I := I0) hIW (v := cv) (l := cs)
 obtain ⟨a, N, cap, rfl, hN, -, -, -⟩ := hRC hRW
 have HN := Lib.hid hN
 have HY := Lib.hid hY
 have HJ := Lib.hid hJ
 have HJR := Lib.hid hJR
 have HB1 := Lib.hid hb1
 have HB2 := Lib.hid hb2
 have hNl : N ≤ 1000000000 := by omega
 have c1 : W.cell? ⟨b1, 0, none⟩ = some (.slice a N cap) := by simp [World.cell?, hb1]
 clear hN hY hJ hJR hb1 hb2 hRC hIW hRW
 refine callsIn_of_wp Tryz.func112 rfl trivial ?_ rfl
 simp only [Tryz.ntmps112, List.size_toArray, List.length_cons, List.length_nil, Nat.reduceAdd, Nat.reduceSub, Array.replicate_succ, Array.replicate_zero, List.push_toArray, List.append_toArray, List.nil_append, List.cons_append]
 gi_wp2
 gi_loopw [10] (fun v10 wr => ∃ (m : Nat) (I : Nat → Nat → Prop) (cur : ByteArray), m ≤ N + 1 ∧ v10 = .int .i64 m ∧ Hid (∃ pre : List (Nat × Nat), pre.length = m ∧ upX cs (cs.length + 1) 0 name = pre ++ upX cs (N + 1 - m) m cur) ∧ Hid (J m I wr) ∧ Hid (wr.heap[b2]? = some (.cells #[.string cur] 9))) (fun v10 _ => N + 1 - (intOf v10).toNat)
 case atStart => exact ⟨0, I0, name, by omega, rfl, ⟨[], rfl, by rw [HN.out]; rfl⟩, h0, HB2.out⟩
 case round =>
  obtain ⟨m, I, cur, hm, rfl, HPX, HJP, HC2⟩ := hrel;have HC1 := Lib.hid (HJR.out _ _ _ HJP.out).2.2;have d1 : wr.cell? ⟨b1, 0, none⟩ = some (.slice a N cap) := by simp [World.cell?, HC1.out]
  have d2 : wr.cell? ⟨b2, 0, none⟩ = some (.string cur) := by simp [World.cell?, HC2.out]
  have d3 : wr.frozen? ⟨b2, 0, none⟩ = false := by simp [World.frozen?, HC2.out]
  by_cases hmN : m < N + 1
  ·have HRW : Hid (∃ d, mD d wr (· < wr.heap.size) (.slice a N cap) cs) := let ⟨d, h⟩ := Bo (w := wr) (I := I) (HJR.out _ _ _ HJP.out).1 (v := .slice a N cap) (l := cs); ⟨d, h (HJR.out _ _ _ HJP.out).2.1⟩
   obtain ⟨d', HRW⟩ := HRW
   have HRW := Lib.hid HRW
   gi_wp2_with fail
   refine ⟨trivial, (callsIn_wide.2 (IE d' (.slice a N cap) cs cur b2 wr HRW.out d2)).mono ?_⟩
   rintro e w2 ⟨rfl, hb⟩
   have hl1 : b1 < wr.heap.size := (Array.getElem?_eq_some_iff.1 HC1.out).1
   have hl2 : b2 < wr.heap.size := (Array.getElem?_eq_some_iff.1 HC2.out).1
   have HD1 : Hid (w2.heap[b1]? = some (.cells #[.slice a N cap, mv] 25)) := (hb.block b1 hl1).trans HC1.out
   have HD2 : Hid (w2.heap[b2]? = some (.cells #[.string cur] 9)) := (hb.block b2 hl2).trans HC2.out
   have HJ2 : Hid (J m I w2) := HJ.out m I wr w2 none HJP.out ⟨hb.os, hb.tape, hb.output, hb.size, fun k hk _ => hb.block k hk⟩ (fun r e => by cases e)
   have e1 : w2.cell? ⟨b1, 0, none⟩ = some (.slice a N cap) := by simp [World.cell?, HD1.out]
   have e2 : w2.cell? ⟨b2, 0, none⟩ = some (.string cur) := by simp [World.cell?, HD2.out]
   have hk : N + 1 - m = (N - m) + 1 := by omega
   rw [hk] at HPX
   clear d1 d2 d3 hb HC1 HC2 HJP HRW hk
   by_cases hi : 0 ≤ dO (ji cur) cs
   ·obtain ⟨c, hc, hnm⟩ := rZ _ _ hi
    obtain ⟨j, hj⟩ : ∃ j : Nat, dO (ji cur) cs = j := ⟨(dO (ji cur) cs).toNat, by omega⟩
    have hfj : wz cs cur = some j := by unfold wz; rw [if_pos hi, hj]; simp
    rw [hj, Int.toNat_natCast] at hc
    have hjN : j < N := by rw [← HN.out]; exact (List.getElem?_eq_some_iff.1 hc).1
    have hsup : sM cs j = c.super := by unfold sM; rw [hc]; rfl
    obtain ⟨a', off, fv, mv', ea, HRCS, hcl⟩ := yJ (HJR.out _ _ _ HJ2.out).2.1 hc
    have HEA := Lib.hid ea
    have HRCS := Lib.hid HRCS
    subst ea
    have HX : Hid ((upX cs (cs.length + 1) 0 name)[m]? = some (m, j) ∧ ∃ pre : List (Nat × Nat), pre.length = m + 1 ∧ upX cs (cs.length + 1) 0 name = pre ++ upX cs (N + 1 - (m + 1)) (m + 1) c.super) := by
     show _ ∧ _
     obtain ⟨pre, hp1, hp2⟩ := HPX.out
     have e3 : N + 1 - (m + 1) = N - m := by omega
     rw [hp2, e3]
     conv => lhs; rw [upX]
     conv => rhs; rw [upX]
     rw [hfj]
     subst hp1
     refine ⟨by simp, pre ++ [(pre.length, j)], by simp, by simp [hsup]⟩
    obtain ⟨fn, tmps, assign, body, hy, hR⟩ := HY.out m I w2 j c _ HJ2.out HX.out.1 hc HRCS.out
    obtain ⟨f0, f1, f2, f3, -⟩ := hcl
    rw [hj]
    have HCJ := Lib.hid hc
    clear hnm hi hfj hsup
    gi_wp2
    refine hR.mono ?_
    rintro e W3 (⟨rfl, ⟨I3, hJ3⟩, hk3⟩ | ⟨rfl, hJx3⟩)
    ·obtain ⟨a3, off3, fv3, mv3, ea3, -, hcl3⟩ := yJ (HJR.out _ _ _ hJ3).2.1 HCJ.out
     simp only [Option.some.injEq, Addr.mk.injEq, and_true] at ea3
     obtain ⟨rfl, rfl⟩ := ea3
     have HE1 := Lib.hid (HJR.out _ _ _ hJ3).2.2
     have HE2 : Hid (W3.heap[b2]? = some (.cells #[.string cur] 9)) := hk3.trans HD2.out
     have g1 : W3.cell? ⟨b1, 0, none⟩ = some (.slice (some ⟨a', off, none⟩) N cap) := by simp [World.cell?, HE1.out]
     have g2 : W3.cell? ⟨b2, 0, none⟩ = some (.string cur) := by simp [World.cell?, HE2.out]
     have g3 : W3.frozen? ⟨b2, 0, none⟩ = false := by simp [World.frozen?, HE2.out]
     have g4 := hcl3.2.1
     have HJ3 : Hid (J (m + 1) I3 (W3.setCell ⟨b2, 0, none⟩ (.string c.super))) := HJ.out _ _ W3 _ (some b2) hJ3 ⟨rfl, rfl, rfl, by show _ ≤ (W3.heap.modify _ _).size; rw [Array.size_modify]; exact Nat.le_refl _, fun q _ hne => Below.heap_setCell W3 _ _ q (fun e => hne (by rw [e]))⟩ (fun r e => by cases e; rfl)
     have HF2 : Hid ((W3.setCell ⟨b2, 0, none⟩ (.string c.super)).heap[b2]? = some (.cells #[.string c.super] 9)) := by
      show (W3.heap.modify b2 _)[b2]? = _;rw [Array.getElem?_modify, if_pos rfl, HE2.out]; rfl
     clear hk3 hJ3 HE1 HE2 hcl3
     gi_wp2
     go_roundw
     case rel => exact ⟨m + 1, I3, c.super, by omega, by go_num, HX.out.2, HJ3, HF2⟩
     case measure => simp [intOf]; omega
    ·gi_wp2
     refine bodyPost_ret (results_none rfl _ _ _) rfl ?_
     exact ⟨⟨_, rfl⟩, .inr hJx3⟩
   ·have hi2 : dO (ji cur) cs < 0 := by omega
    have HX : Hid ((upX cs (cs.length + 1) 0 name).length = m) := by
     show _ = _
     obtain ⟨pre, hp1, hp2⟩ := HPX.out
     rw [hp2]
     conv => lhs; rw [upX]
     unfold wz
     rw [if_neg hi]; simp [hp1]
    generalize dO (ji cur) cs = i at *
    clear hi
    gi_wp2
    refine ⟨fun _ h => (by cases h), ?_⟩
    gi_wp2
    refine bodyPost_ret (results_none rfl _ _ _) rfl ?_
    exact ⟨⟨_, rfl⟩, .inl ⟨I, by rw [HX.out]; exact HJ2.out⟩⟩
  ·obtain rfl : m = N + 1 := by omega
   have HX : Hid ((upX cs (cs.length + 1) 0 name).length = N + 1) := by
    show _ = _;obtain ⟨pre, hp1, hp2⟩ := HPX.out;have e3 : N + 1 - (N + 1) = 0 := by omega
    rw [hp2, e3, upX, List.append_nil, hp1]
   gi_wp2
   go_end0
   exact ⟨⟨_, rfl⟩, .inl ⟨I, by rw [HX.out]; exact HJP.out⟩⟩
end V
end Go.Proofs.YtgaipdillmleeaaGreat
end
section
namespace Go.Proofs.YtgaipdillmleeaaGreat
namespace V
open Go.RowKit
section
variable {w0 w w' : World} {I0 I : Nat → Nat → Prop} {B : Nat → Value} {m : Mem}
theorem MR.PU (h : MR w0 I0 B I m w) {id b : Nat} (hid : m id = some .hole) (hB : B id = .pointer (some ⟨b, 0, none⟩)) (h1 : w'.os = w.os) (h2 : w'.tape = w.tape) (h3 : w'.output = w.output) (hsize : w.heap.size ≤ w'.heap.size) (hk : ∀ k, k < w.heap.size → k ≠ b → w'.heap[k]? = w.heap[k]?) :
 MR w0 I0 B I m w' ∧ Ext w w' I I := by
 have hf : foot B id .hole b := ⟨0, hB⟩
 obtain ⟨b', e1, hI⟩ := h.objs id _ hid
 rw [hB] at e1; cases e1
 have hl := h.low id _ hid b hf
 have hE : Ext w w' I I := ⟨fun _ _ k => k, fun c o ho => World.cell?_of_block (w := w) (hk c (h.there c o ho) (fun e => by subst e; exact hI o ho))⟩
 refine ⟨⟨h.below.trans ⟨h1, h2, h3, hsize, fun k hk' => hk k (Nat.lt_of_lt_of_le hk' h.below.size) (by omega)⟩, h.glob, h.base, h.old, fun c o ho => Nat.lt_of_lt_of_le (h.there c o ho) hsize, fun j o ho => ?_, fun j o ho k hk' => ?_, h.apart, h.live⟩, hE⟩
 ·by_cases e : j = id
  ·subst e
   rw [hid] at ho; cases ho
   exact ⟨b, hB, hI⟩
  ·exact RO.mono hE rfl (fun _ _ => rfl) (fun k hk' => hk k (h.low j o ho k hk').2 (fun e' => by subst e'; exact h.apart j o id _ ho hid e k hk' hf)) (fun _ _ _ hp => hp) (h.objs j o ho)
 ·have := h.low j o ho k hk'; omega
theorem MR.sub (h : MR w0 I0 B I m w) {m' : Mem} (hs : ∀ j o, m' j = some o → m j = some o) (hw : WFm m') : MR w0 I0 B I m' w :=
 ⟨h.below, h.glob, h.base, h.old, h.there, fun id o ho => h.objs id o (hs _ _ ho), fun id o ho => h.low id o (hs _ _ ho), fun id o id' o' ho ho' => h.apart id o id' o' (hs _ _ ho) (hs _ _ ho'), hw⟩
end
def bH (m : Mem) (i1 i2 iD iL : Nat) (x1 x2 xL : Obj) : Mem := upd (upd (upd (upd m i1 (some (.raw x1))) i2 (some (.raw x2))) iD (some (.raw (.deferred (some []))))) iL (some (.raw xL))
def qO (m : Mem) (i1 i2 iD iL : Nat) (x1 xL : Obj) : Mem := upd (upd (upd (upd m i1 (some (.raw x1))) i2 (some .hole)) iD (some (.raw (.deferred (some []))))) iL (some (.raw xL))
def eP (s : Nat → A) (b iD : Nat) : Nat → A := upd (upd s DID (.defs [{ target := .collected b, args := #[] }])) (DID + 1) (.pinP (.pointer (some ⟨b, 0, none⟩)) iD 0)
def fF (m : Mem) (iD : Nat) : Mem := upd m iD (some (.raw (.deferred (some []))))
def keepR (kp : Nat → Prop) (s0 : Nat → A) (i1 i2 iD iL : Nat) : Nat → Prop := fun j => kp j ∨ (∃ t, j ∈ (s0 t).ids) ∨ j = i1 ∨ j = i2 ∨ j = iD ∨ j = iL
structure GoodM (kp : Nat → Prop) (s0 : Nat → A) (i1 i2 iD iL : Nat) (m : Mem) : Prop where
 wf : WFm m
 i1 : m i1 = none
 i2 : m i2 = none
 iD : m iD = none
 iL : m iL = none
 ids : ∀ t, ∀ j ∈ (s0 t).ids, (m j).isSome = true
 kept : ∀ j, kp j → (m j).isSome = true
theorem Ao {α : Type} (f : Nat → α) (i : Nat) (x y : α) : upd (upd f i x) i y = upd f i y := by
 funext t; unfold upd; split <;> rfl
def XW (kp : Nat → Prop) (K : Exit → St → Prop) (Inv : Nat → Prop) (s0 : Nat → A) (M : Nat → Mem) (i1 i2 iD iL k : Nat) (x1 x2 xL : Obj) : Exit → St → Prop
 | .normal, st => Inv (k + 1) ∧ ∃ τ, LeT τ (keepR kp s0 i1 i2 iD iL) st ⟨fun _ => .top, bH (M (k + 1)) i1 i2 iD iL x1 x2 xL⟩
 | .ret, st => ∃ τ m2, LeT τ (keepR kp s0 i1 i2 iD iL) st ⟨fun _ => .top, bH m2 i1 i2 iD iL x1 x2 xL⟩ ∧ GoodM kp s0 i1 i2 iD iL m2 ∧ ∀ b, K .ret ⟨eP s0 b iD, fF m2 iD⟩
 | .exit id, st => ∃ τ m2, LeT τ (keepR kp s0 i1 i2 iD iL) st ⟨fun _ => .top, bH m2 i1 i2 iD iL x1 x2 xL⟩ ∧ GoodM kp s0 i1 i2 iD iL m2 ∧ ∀ b, K (.exit id) ⟨eP s0 b iD, fF m2 iD⟩
 | _, _ => False
section
variable {kp : Nat → Prop} {s0 : Nat → A} {i1 i2 iD iL : Nat} {m : Mem} {x1 x2 xL : Obj}
theorem Ac {o2 : O} {j : Nat} {o : O} (h : upd (upd (upd (upd m i1 (some (.raw x1))) i2 (some o2)) iD (some (.raw (.deferred (some []))))) iL (some (.raw xL)) j = some o) : (j = iL ∧ o = .raw xL) ∨ (j = iD ∧ j ≠ iL ∧ o = .raw (.deferred (some []))) ∨ (j = i2 ∧ j ≠ iL ∧ j ≠ iD ∧ o = o2) ∨ (j = i1 ∧ j ≠ iL ∧ j ≠ iD ∧ j ≠ i2 ∧ o = .raw x1) ∨ (j ≠ iL ∧ j ≠ iD ∧ j ≠ i2 ∧ j ≠ i1 ∧ m j = some o) := by
 unfold upd at h;split at h
 ·rename_i e; exact .inl ⟨e, (Option.some.inj h).symm⟩
 ·rename_i e1;split at h
  ·rename_i e; exact .inr (.inl ⟨e, e1, (Option.some.inj h).symm⟩)
  ·rename_i e2;split at h
   ·rename_i e; exact .inr (.inr (.inl ⟨e, e1, e2, (Option.some.inj h).symm⟩))
   ·rename_i e3;split at h
    ·rename_i e; exact .inr (.inr (.inr (.inl ⟨e, e1, e2, e3, (Option.some.inj h).symm⟩)))
    ·rename_i e4; exact .inr (.inr (.inr (.inr ⟨e1, e2, e3, e4, h⟩)))
theorem sH {o2 : O} {j : Nat} (h : (m j).isSome = true) : (upd (upd (upd (upd m i1 (some (.raw x1))) i2 (some o2)) iD (some (.raw (.deferred (some []))))) iL (some (.raw xL)) j).isSome = true := by
 unfold upd;split
 ·rfl
 ·split
  ·rfl
  ·split
   ·rfl
   ·split
    ·rfl
    ·exact h
theorem Ru {o2 : O} (h2 : o2.ids = []) (hw : WFm m) : WFm (upd (upd (upd (upd m i1 (some (.raw x1))) i2 (some o2)) iD (some (.raw (.deferred (some []))))) iL (some (.raw xL))) := fun j o ho i hi => by
 rcases Ac ho with ⟨-, rfl⟩ | ⟨-, -, rfl⟩ | ⟨-, -, -, rfl⟩ | ⟨-, -, -, -, rfl⟩ | ⟨-, -, -, -, ho⟩
 ·simp [O.ids] at hi
 ·simp [O.ids] at hi
 ·rw [h2] at hi; simp at hi
 ·simp [O.ids] at hi
 ·exact sH (hw j o ho i hi)
theorem PW (hw : WFm m) : WFm (qO m i1 i2 iD iL x1 xL) := Ru rfl hw
theorem iP (h : GoodM kp s0 i1 i2 iD iL m) {j : Nat} (hj : keepR kp s0 i1 i2 iD iL j) : (bH m i1 i2 iD iL x1 x2 xL j).isSome = true := by
 rcases hj with hj | ⟨t, hj⟩ | hj
 ·exact sH (h.kept j hj)
 ·exact sH (h.ids t j hj)
 ·unfold bH upd;split
  ·rfl
  ·split
   ·rfl
   ·split
    ·rfl
    ·split
     ·rfl
     ·omega
theorem RJ (y : Obj) : upd (bH m i1 i2 iD iL x1 x2 xL) iL (some (.raw y)) = bH m i1 i2 iD iL x1 x2 y := Ao _ _ _ _
theorem QE (y : Obj) : upd (qO m i1 i2 iD iL x1 xL) iL (some (.raw y)) = qO m i1 i2 iD iL x1 y := Ao _ _ _ _
theorem Ob (h2D : i2 ≠ iD) (h2L : i2 ≠ iL) (o o' : O) : upd (upd (upd (upd (upd m i1 (some (.raw x1))) i2 (some o)) iD (some (.raw (.deferred (some []))))) iL (some (.raw xL))) i2 (some o') = upd (upd (upd (upd m i1 (some (.raw x1))) i2 (some o')) iD (some (.raw (.deferred (some []))))) iL (some (.raw xL)) := by
 funext t
 unfold upd
 by_cases h1 : t = i2 <;> by_cases h2 : t = iL <;> by_cases h3 : t = iD <;> simp [h1, h2, h3]
 ·exact absurd (h1.symm.trans h2) h2L
 ·exact absurd (h1.symm.trans h2) h2L
 ·exact absurd (h1.symm.trans h3) h2D
 all_goals (try subst h1) <;> simp_all
end
theorem SR.xH {R : Ref} {n : Nat} {ds : List Deferred} {st : St} {a : Act} {w : World} (h : SR R n ds st a w) {id b : Nat} {x : Obj} (hid : st.m id = some (.raw x)) (hk : R.keep id) (hB : R.B id = .pointer (some ⟨b, 0, none⟩)) (y : Obj) :
 w.heap[b]? = some x ∧ SR R n ds ⟨st.s, upd st.m id (some (.raw y))⟩ a (w.putObj b y) := by
 obtain ⟨⟨B, I, hm, hx0, hkp, hs⟩, hids, hsz, hnn, hdf, hkept⟩ := h
 have hB' : B id = .pointer (some ⟨b, 0, none⟩) := (hkp id hk).trans hB
 obtain ⟨hm', hE⟩ := hm.xH hid hB' y
 have liv : ∀ i, (st.m i).isSome = true → (upd st.m id (some (.raw y)) i).isSome = true := fun i hi => by
  exact Kk
 obtain ⟨b', e1, hx, -⟩ := hm.objs id _ hid
 rw [hB'] at e1; cases e1
 exact ⟨hx, ⟨B, I, hm', hx0.trans hE, hkp, fun t => (hs t).mono hE fun _ _ => rfl⟩, fun t j hj => liv j (hids t j hj), hsz, hnn, hdf, fun j hj => liv j (hkept j hj)⟩
set_option maxHeartbeats 1000000 in
theorem W.zw {R : Ref} {n : Nat} {ds : List Deferred} {st : St} {K : Exit → St → Prop} {g : Operand} {assign body : Code} {p0 p1 : Tmp}
 (cs : List Class) (name : ByteArray) (mn : C) (i1 i2 iD iL : Nat) (s0 : Nat → A) (M : Nat → Mem) (Inv : Nat → Prop) (hlen : cs.length ≤ 1000000000)
 (hg : ev st.s g = .fn 112 [i1, i2]) (h1 : st.m i1 = some (.box 25 [.c (.sl (cs.map au)), .c mn])) (h2 : st.m i2 = some (.box 9 [.c (.str name)]))
 (hne : [i1, i2, iD, iL].Nodup) (hD : st.m iD = none) (hL : st.m iL = none) (hpn : p0 < n ∧ p1 < n ∧ p0 ≠ p1) (hI0 : Inv 0) (hdd : dfs (st.s DID) = [])
 (hs0 : SLe st.s s0) (hsn : ∀ t, n ≤ t → s0 t = .top) (hM0 : ∀ j o, M 0 j = some o → st.m j = some o)
 (hM : ∀ k, k ≤ (upX cs (cs.length + 1) 0 name).length → GoodM R.keep s0 i1 i2 iD iL (M k))
 (hround : ∀ (R' : Ref) (l : Nat), R'.keep = keepR R.keep s0 i1 i2 iD iL → ∀ (k j : Nat) (c : Class) (x1 x2 xL : Obj), Inv k → (upX cs (cs.length + 1) 0 name)[k]? = some (k, j) → cs[j]? = some c →
   WI l 3 Tryz.prog R' n [] ⟨upd (upd s0 p0 (.c (.int .i64 (k : Int)))) p1 (.agg (au c)), bH (M k) i1 i2 iD iL x1 x2 xL⟩ assign
    (yG (fun st1 => st1.m iL = some (.raw xL) ∧ ∀ xL', WI l 3 Tryz.prog R' n [] ⟨st1.s, upd st1.m iL (some (.raw xL'))⟩ body (XW R.keep K Inv s0 M i1 i2 iD iL k x1 x2 xL')) (fun _ _ => False)))
 (hdone : Inv (upX cs (cs.length + 1) 0 name).length → ∀ b, K .normal ⟨eP s0 b iD, fF (M (upX cs (cs.length + 1) 0 name).length) iD⟩) :
 W Tryz.prog R n ds st (.rangeFunc g #[p0, p1] assign body) K := by
 intro a w hr
 obtain ⟨⟨B, I, hm, hx0, hkp, hs⟩, hids, hsz, hnn, hdf, hkept⟩ := hr
 simp only [List.nodup_cons, List.mem_cons, List.not_mem_nil, or_false, not_or, List.nodup_nil, and_true, not_false_eq_true] at hne
 obtain ⟨⟨n12, n1D, n1L⟩, ⟨n2D, n2L⟩, nDL⟩ := hne
 obtain ⟨b1, us1, hB1, hh1, hv1, hI1⟩ := hm.objs i1 _ h1
 obtain ⟨b2, us2, hB2, hh2, hv2, hI2⟩ := hm.objs i2 _ h2
 have hb12 : b1 ≠ b2 := fun e => hm.apart i1 _ i2 _ h1 h2 n12 b1 ⟨0, hB1⟩ ⟨0, e ▸ hB2⟩
 -- the two boxes' cells
 obtain ⟨cv, mv, rfl⟩ : ∃ cv mv, us1 = [cv, mv] := by
  have := hv1.length;match us1, this with | [x, y], _ => exact ⟨x, y, rfl⟩
 obtain ⟨nv, rfl⟩ : ∃ nv, us2 = [nv] := by
  have := hv2.length;match us2, this with | [x], _ => exact ⟨x, rfl⟩
 obtain rfl : nv = .string name := (RC.toStr hv2.1.1).1
 have hcv : RC w I cv (.sl (cs.map au)) := hv1.1.1
 have hfv : a.eval g = .func (.func 112) #[] #[.pointer (some ⟨b1, 0, none⟩), .pointer (some ⟨b2, 0, none⟩)] := by
  have := gM hs g;rw [hg] at this;have h := show a.eval g = .func (.func 112) #[] (([i1, i2].map B).toArray) from this;rw [h]; simp [hB1, hB2]
 have had : a.defers = ds := by rw [hdf, show dfs (st.s DID) = [] from hdd]; rfl
 refine (wpIn_wide (n := 5)).1 (wpIn_rangeFunc fun fn hfn => ?_)
 -- the loop's book-keeping
 generalize hrec : (fun s pe => zk fn a.tmps #[p0, p1] assign body w.heap.size s pe) = rec'
 have recL : ∀ s pe, rec' s pe = zk fn a.tmps #[p0, p1] assign body w.heap.size s pe := fun s pe => by rw [← hrec]
 generalize hws : (w.alloc (.deferred (some []))).alloc (rec' .ready none) = ws
 have size0 : (w.alloc (.deferred (some []))).heap.size = w.heap.size + 1 := World.size_alloc _ _
 generalize hBsd : upd (upd B iD (.pointer (some ⟨w.heap.size, 0, none⟩))) iL (.pointer (some ⟨w.heap.size + 1, 0, none⟩)) = Bs
 have hm1 := hm.NS hD (.deferred (some []))
 have hb1 : Below w.heap.size w (w.alloc (.deferred (some []))) := (Below.refl _ _).alloc (Nat.le_refl _) _
 have hL' : upd st.m iD (some (O.raw (.deferred (some [])))) iL = none := by rw [upd_ne _ _ (Ne.symm nDL)]; exact hL
 have hm2 := hm1.NS hL' (rec' .ready none)
 rw [size0, hBsd, hws] at hm2
 have hb2 : Below w.heap.size w ws := by rw [← hws]; exact hb1.alloc (by rw [size0]; omega) _
 have hE2 : Ext w ws I I := hm.ext hb2 (fun _ _ k => k)
 have hBs : ∀ j, (st.m j).isSome = true → Bs j = B j := fun j hj => by
  rw [← hBsd, upd_ne _ _ (fun e => by subst e; simp [hL] at hj), upd_ne _ _ (fun e => by subst e; simp [hD] at hj)]
 have hB1s : Bs i1 = .pointer (some ⟨b1, 0, none⟩) := (hBs i1 (by simp [h1])).trans hB1
 have hB2s : Bs i2 = .pointer (some ⟨b2, 0, none⟩) := (hBs i2 (by simp [h2])).trans hB2
 have hBDs : Bs iD = .pointer (some ⟨w.heap.size, 0, none⟩) := by rw [← hBsd, upd_ne _ _ nDL, upd_same]
 have hBLs : Bs iL = .pointer (some ⟨w.heap.size + 1, 0, none⟩) := by rw [← hBsd, upd_same]
 have hl1 : b1 < w.heap.size := (Array.getElem?_eq_some_iff.1 hh1).1
 have hl2 : b2 < w.heap.size := (Array.getElem?_eq_some_iff.1 hh2).1
 -- the frame, as it was at the loop's start
 have hframe : ∀ t, RV Bs ws I (s0 t) (a.tmps.getD t undef) := fun t => by
  rcases hs0 t with e | e
  ·rw [e]; trivial
  ·rw [e]; exact (hs t).mono hE2 fun j hj => hBs j (hids t j hj)
 let x1 : Obj := .cells #[cv, mv] 25
 let kp' := keepR R.keep s0 i1 i2 iD iL
 have keep1 : kp' i1 := .inr (.inr (.inl rfl))
 have keep2 : kp' i2 := .inr (.inr (.inr (.inl rfl)))
 have keepD : kp' iD := .inr (.inr (.inr (.inr (.inl rfl))))
 have keepL : kp' iL := .inr (.inr (.inr (.inr (.inr rfl))))
 let R' : Ref := ⟨R.w0, R.I0, ws, I, Bs, kp'⟩
 let J : Nat → (Nat → Nat → Prop) → World → Prop := fun k I1 W => ∃ B1, MR R.w0 R.I0 B1 I1 (qO (M k) i1 i2 iD iL x1 (rec' .ready none)) W ∧ Ext ws W I I1 ∧ (∀ j, kp' j → B1 j = Bs j) ∧ k ≤ (upX cs (cs.length + 1) 0 name).length ∧ Inv k
 let Jx : World → Prop := fun W => ∃ c B1 I1 m2, MR R.w0 R.I0 B1 I1 (qO m2 i1 i2 iD iL x1 (rec' .done (some c))) W ∧ Ext ws W I I1 ∧ (∀ j, kp' j → B1 j = Bs j) ∧ GoodM R.keep s0 i1 i2 iD iL m2 ∧
  ((c = .ret ∧ ∀ b, K .ret ⟨eP s0 b iD, fF m2 iD⟩) ∨ ∃ id, c = .exit id ∧ ∀ b, K (.exit id) ⟨eP s0 b iD, fF m2 iD⟩)
 have fullL : ∀ (m : Mem) (o2 : O) (x : Obj), upd (upd (upd (upd m i1 (some (.raw x1))) i2 (some o2)) iD (some (.raw (.deferred (some []))))) iL (some (.raw x)) iL = some (.raw x) := fun _ _ _ => upd_same _ _ _
 have full2 : ∀ (m : Mem) (o2 : O) (x : Obj), upd (upd (upd (upd m i1 (some (.raw x1))) i2 (some o2)) iD (some (.raw (.deferred (some []))))) iL (some (.raw x)) i2 = some o2 := fun _ _ _ => by rw [upd_ne _ _ n2L, upd_ne _ _ n2D, upd_same]
 have full1 : ∀ (m : Mem) (o2 : O) (x : Obj), upd (upd (upd (upd m i1 (some (.raw x1))) i2 (some o2)) iD (some (.raw (.deferred (some []))))) iL (some (.raw x)) i1 = some (.raw x1) := fun _ _ _ => by rw [upd_ne _ _ n1L, upd_ne _ _ n1D, upd_ne _ _ n12, upd_same]
 -- behind the loop
 have finish : ∀ {W : World} {B1 : Nat → Value} {I1 : Nat → Nat → Prop} {m2 : Mem} {y : Obj}, MR R.w0 R.I0 B1 I1 (qO m2 i1 i2 iD iL x1 y) W → Ext ws W I I1 → (∀ j, kp' j → B1 j = Bs j) → GoodM R.keep s0 i1 i2 iD iL m2 →
  SR R n ds ⟨eP s0 w.heap.size iD, fF m2 iD⟩ { a with defers := { target := .collected w.heap.size, args := #[] } :: a.defers } W := fun {W B1 I1 m2 y} hmW hxW hkW hgd => by
  have liv : ∀ j, (m2 j).isSome = true → (fF m2 iD j).isSome = true := fun j hj => by
   unfold fF upd; split
   ·rfl
   ·exact hj
  have hsub : MR R.w0 R.I0 B1 I1 (fF m2 iD) W := hmW.sub (fun j o ho => by
   unfold fF upd at ho;split at ho
   ·rename_i e; subst e; cases ho;unfold qO; rw [upd_ne _ _ nDL, upd_same]
   ·rename_i e;have e1 : j ≠ iL := fun q => by subst q; rw [hgd.iL] at ho; cases ho
    have e2 : j ≠ i2 := fun q => by subst q; rw [hgd.i2] at ho; cases ho
    have e3 : j ≠ i1 := fun q => by subst q; rw [hgd.i1] at ho; cases ho
    unfold qO; rw [upd_ne _ _ e1, upd_ne _ _ e, upd_ne _ _ e2, upd_ne _ _ e3]; exact ho) (fun j o ho i hi => by
   unfold fF upd at ho;split at ho
   ·cases ho; simp [O.ids] at hi
   ·exact liv i (hgd.wf j o ho i hi))
  have sl : ∀ t, t ≠ DID → t ≠ DID + 1 → eP s0 w.heap.size iD t = s0 t := fun t e1 e2 => by
   unfold eP; rw [upd_ne _ _ e2, upd_ne _ _ e1]
  refine ⟨⟨B1, I1, hsub, (hx0.trans hE2).trans hxW, fun j hj => ((hkW j (.inl hj)).trans (hBs j (hkept j hj))).trans (hkp j hj), fun t => ?_⟩, fun t j hj => ?_, hsz, hnn, ?_, fun j hj => liv j (hgd.kept j hj)⟩
  ·by_cases e2 : t = DID + 1
   ·subst e2
    show RV B1 W I1 (eP s0 w.heap.size iD (DID + 1)) _
    unfold eP; rw [upd_same]
    exact ⟨w.heap.size, (hkW iD keepD).trans hBDs, rfl⟩
   ·by_cases e1 : t = DID
    ·subst e1
     show RV B1 W I1 (eP s0 w.heap.size iD DID) _
     unfold eP; rw [upd_ne _ _ (by decide), upd_same]
     trivial
    ·show RV B1 W I1 (eP s0 w.heap.size iD t) _
     rw [sl t e1 e2]
     exact (hframe t).mono hxW fun j hj => hkW j (.inr (.inl ⟨t, hj⟩))
  ·replace hj : j ∈ (eP s0 w.heap.size iD t).ids := hj
   by_cases e2 : t = DID + 1
   ·subst e2
    unfold eP at hj; rw [upd_same] at hj
    simp [A.ids] at hj; subst hj
    show (fF m2 j j).isSome = true
    unfold fF; rw [upd_same]; rfl
   ·by_cases e1 : t = DID
    ·subst e1
     unfold eP at hj; rw [upd_ne _ _ (by decide), upd_same] at hj
     simp [A.ids] at hj
    ·rw [sl t e1 e2] at hj
     exact liv j (hgd.ids t j hj)
  ·show _ :: a.defers = dfs (eP s0 w.heap.size iD DID) ++ ds
   unfold eP; rw [upd_ne _ _ (by decide), upd_same, had]; rfl
 have hJ0 : J 0 I ws := by
  have ha : MR R.w0 R.I0 Bs I (upd (upd (upd st.m iD (some (O.raw (.deferred (some []))))) iL (some (.raw (rec' .ready none)))) i2 (some .hole)) ws := hm2.Hy (id := i2) (o := .box 9 [.c (.str name)]) (by rw [upd_ne _ _ n2L, upd_ne _ _ n2D]; exact h2) ⟨b2, hB2s, hI2, fun k => ⟨fun ⟨off, hk⟩ => by rw [hB2s] at hk; cases hk; rfl, fun e => ⟨0, e ▸ hB2s⟩⟩⟩;have hi1 : upd (upd (upd st.m iD (some (O.raw (.deferred (some []))))) iL (some (.raw (rec' .ready none)))) i2 (some .hole) i1 = some (.box 25 [.c (.sl (cs.map au)), .c mn]) := by rw [upd_ne _ _ n12, upd_ne _ _ n1L, upd_ne _ _ n1D]; exact h1
  have hb := ha.Hy hi1 ⟨b1, hB1s, hI1, fun k => ⟨fun ⟨off, hk⟩ => by rw [hB1s] at hk; cases hk; rfl, fun e => ⟨0, e ▸ hB1s⟩⟩⟩;have hc := hb.Ms (id := i1) (b := b1) (x := x1) (upd_same _ _ _) hB1s ((hb2.block b1 hl1).trans hh1);refine ⟨Bs, hc.sub (fun j o ho => ?_) (PW (hM 0 (Nat.zero_le _)).wf), Ext.refl _ _, fun _ _ => rfl, Nat.zero_le _, hI0⟩;rw [Ao];rcases Ac ho with ⟨rfl, rfl⟩ | ⟨rfl, e1, rfl⟩ | ⟨rfl, e1, e2, rfl⟩ | ⟨rfl, e1, e2, e3, rfl⟩ | ⟨e1, e2, e3, e4, ho⟩
  ·rw [upd_ne _ _ (Ne.symm n1L), upd_ne _ _ (Ne.symm n2L), upd_same]
  ·rw [upd_ne _ _ (Ne.symm n1D), upd_ne _ _ (Ne.symm n2D), upd_ne _ _ nDL, upd_same]
  ·rw [upd_ne _ _ (Ne.symm n12), upd_same]
  ·rw [upd_same]
  ·rw [upd_ne _ _ e4, upd_ne _ _ e3, upd_ne _ _ e1, upd_ne _ _ e2]; exact hM0 j o ho
 have hJA : Ke b2 J := fun k I1 W W' row hj hgr hrow => by
  obtain ⟨B1, q1, q2, q3, q4⟩ := hj;have hB := (q3 i2 keep2).trans hB2s;obtain ⟨r1, r2⟩ := q1.PU (full2 _ _ _) hB hgr.os hgr.tape hgr.output hgr.size (fun c hc hcb => hgr.block c hc (fun e => hcb (hrow c e.symm)));exact ⟨B1, r1, q2.trans r2, q3, q4⟩
 have hJR : ∀ k I1 W, J k I1 W → (∀ b o, I1 b o → b < W.heap.size) ∧ RC W I1 cv (.sl (cs.map au)) ∧ W.heap[b1]? = some (.cells #[cv, mv] 25) := fun k I1 W hj => by
  obtain ⟨B1, q1, q2, q3, q4⟩ := hj;refine ⟨q1.there, RC.mono q2 (RC.mono hE2 hcv), ?_⟩;obtain ⟨b, e1, e2, -⟩ := q1.objs i1 _ (full1 _ _ _);rw [(q3 i1 keep1).trans hB1s] at e1; cases e1;exact e2
 refine ⟨w.heap.size + 1, [{ target := .collected w.heap.size, args := #[] }], ws, { target := .fn (.func 112) #[.pointer (some ⟨b1, 0, none⟩), .pointer (some ⟨b2, 0, none⟩)], args := #[.func (.yield (w.heap.size + 1)) #[] #[]] }, ws, 112,
  #[.func (.yield (w.heap.size + 1)) #[] #[], .pointer (some ⟨b1, 0, none⟩), .pointer (some ⟨b2, 0, none⟩)], ws, ?_, by simp only [resolve, hfv]; simp [go_sem, Deferred.ofValue], ?_, ?_, fun _ => by decide, ?_⟩
 ·rw [← hws, recL]; exact run_enterLoop_outer _ _ _ _ _
 ·intro f' hf'
  simp [Target.leads] at hf'
  subst hf'; trivial
 ·have := enters_of Tryz.func112 (by kernel_rfl) rfl #[.func (.yield (w.heap.size + 1)) #[] #[], .pointer (some ⟨b1, 0, none⟩), .pointer (some ⟨b2, 0, none⟩)] ws
  simp [invoke, go_sem, this]
 refine (aa2 4 (by decide) (w.heap.size + 1) b1 b2 cv mv cs name hlen J Jx hJA hb12 hJR ?_ ws I ((hb2.block b2 hl2).trans hh2) hJ0).mono ?_
 ·intro k I1 W j c vs hj hitem hc hvs
  obtain ⟨B1, q1, q2, q3, q4, qI⟩ := hj
  have hk : k < (upX cs (cs.length + 1) 0 name).length := (List.getElem?_eq_some_iff.1 hitem).1
  have hB2W : B1 i2 = .pointer (some ⟨b2, 0, none⟩) := (q3 i2 keep2).trans hB2s
  have hl2W : b2 < W.heap.size := (q1.low i2 _ (full2 _ _ _) b2 ⟨0, hB2W⟩).2
  obtain ⟨x2, hx2⟩ : ∃ x, W.heap[b2]? = some x := ⟨_, Array.getElem?_eq_getElem hl2W⟩
  have q5 : MR R.w0 R.I0 B1 I1 (bH (M k) i1 i2 iD iL x1 x2 (rec' .ready none)) W := by
   have := q1.Ms (full2 _ _ _) hB2W hx2;unfold qO at this;rw [Ob n2D n2L] at this;exact this
  have hL1 : W.heap[w.heap.size + 1]? = some (rec' .ready none) := by
   obtain ⟨b, e1, e2, -⟩ := q1.objs iL _ (fullL _ _ _);rw [(q3 iL keepL).trans hBLs] at e1; cases e1;exact e2
  have hL2 := hL1
  rw [recL] at hL2
  have hgk := hM k q4
  have hfold : (((#[p0, p1] : Array Tmp).zip (#[.int .i64 (k : Int), .agg vs.toArray] : Array Value)).foldl (fun tmps (p : Tmp × Value) => tmps.setIfInBounds p.1 p.2) a.tmps) = (a.tmps.setIfInBounds p0 (.int .i64 (k : Int))).setIfInBounds p1 (.agg vs.toArray) := by simp
  have htm : ∀ t, ((((#[p0, p1] : Array Tmp).zip (#[.int .i64 (k : Int), .agg vs.toArray] : Array Value)).foldl (fun tmps (p : Tmp × Value) => tmps.setIfInBounds p.1 p.2) a.tmps).getD t undef) = if t = p1 then .agg vs.toArray else if t = p0 then .int .i64 (k : Int) else a.tmps.getD t undef := fun t => by
   rw [hfold, Array.getD_eq_getD_getElem?, Array.getElem?_setIfInBounds];by_cases e1 : p1 = t
   ·subst e1;rw [if_pos rfl, if_pos (by simp; rw [hsz]; exact hpn.2.1), if_pos rfl]; rfl
   ·rw [if_neg e1, if_neg (Ne.symm e1), Array.getElem?_setIfInBounds];by_cases e0 : p0 = t
    ·subst e0;rw [if_pos rfl, if_pos (by rw [hsz]; exact hpn.1), if_pos rfl]; rfl
    ·rw [if_neg e0, if_neg (Ne.symm e0), Array.getD_eq_getD_getElem?]
  have hwf : (Lit.int .i64 (k : Int)).wf = true := by
   have := nN cs (cs.length + 1) 0 name;exact wf_i64 (by omega) (by omega)
  have hsr : SR R' n [] ⟨upd (upd s0 p0 (.c (.int .i64 (k : Int)))) p1 (.agg (au c)), bH (M k) i1 i2 iD iL x1 x2 (rec' .ready none)⟩ { tmps := ((#[p0, p1] : Array Tmp).zip (#[.int .i64 (k : Int), .agg vs.toArray] : Array Value)).foldl (fun tmps (p : Tmp × Value) => tmps.setIfInBounds p.1 p.2) a.tmps, defers := [] } W := by
   refine ⟨⟨B1, I1, q5, q2, q3, fun t => ?_⟩, fun t q hq => ?_, ?_, hnn, ?_, fun q hq => iP hgk hq⟩
   ·rw [htm];show RV B1 W I1 (upd (upd s0 p0 (.c (.int .i64 (k : Int)))) p1 (.agg (au c)) t) _;by_cases e1 : t = p1
    ·subst e1; rw [upd_same, if_pos rfl]; exact ⟨vs, rfl, hvs⟩
    ·rw [upd_ne _ _ e1, if_neg e1];by_cases e0 : t = p0
     ·subst e0; rw [upd_same, if_pos rfl]; exact .int hwf
     ·rw [upd_ne _ _ e0, if_neg e0];exact (hframe t).mono q2 fun q hq => q3 q (.inr (.inl ⟨t, hq⟩))
   ·replace hq : q ∈ (upd (upd s0 p0 (A.c (.int .i64 (k : Int)))) p1 (.agg (au c)) t).ids := hq;by_cases e1 : t = p1
    ·subst e1; rw [upd_same] at hq; simp [A.ids] at hq
    ·rw [upd_ne _ _ e1] at hq;by_cases e0 : t = p0
     ·subst e0; rw [upd_same] at hq; simp [A.ids] at hq
     ·rw [upd_ne _ _ e0] at hq;exact sH (hgk.ids t q hq)
   ·show (((#[p0, p1] : Array Tmp).zip (#[.int .i64 (k : Int), .agg vs.toArray] : Array Value)).foldl (fun tmps (p : Tmp × Value) => tmps.setIfInBounds p.1 p.2) a.tmps).size = n;rw [hfold]; simp [hsz]
   ·show [] = dfs (upd (upd s0 p0 (A.c (.int .i64 (k : Int)))) p1 (.agg (au c)) DID) ++ [];have hn1 : DID ≠ p1 := fun e => by have h := hpn.2.1; rw [← e] at h; exact absurd h (Nat.not_lt.2 hnn)
    have hn0 : DID ≠ p0 := fun e => by have h := hpn.1; rw [← e] at h; exact absurd h (Nat.not_lt.2 hnn)
    rw [upd_ne _ _ hn1, upd_ne _ _ hn0, hsn DID hnn]; rfl
  refine ⟨fn, _, assign, body, run_yield (P := Tryz.prog) (args := #[.int .i64 (k : Int), .agg vs.toArray]) hL2 rfl, roundIn_of_wpIn hfn (wpIn_mono (hround R' (w.heap.size + 1) rfl k j c x1 x2 (rec' .ready none) qI hitem hc _ W hsr) ?_)⟩
  rintro e a1 W1 ⟨st1, hk1, hsr1⟩
  cases e with
  | normal =>
    obtain ⟨hi1, hbody⟩ := hk1
    obtain ⟨hx1, hsr2⟩ := hsr1.xH hi1 keepL hBLs (rec' .busy none)
    rw [recL] at hx1
    refine ⟨_, run_beginRound hx1 rfl, ?_⟩
    have hb := hbody (rec' .busy none) a1 _ hsr2
    rw [recL] at hb
    refine wpIn_mono hb ?_
    rintro e a3 V ⟨st2, hk2, hsr3⟩
    rw [← recL .busy none] at hk2
    -- a round has ended
    have fin : ∀ {τ : Nat → Nat} {m2 : Mem} (s' : LoopState) (pe : Option Code), GoodM R.keep s0 i1 i2 iD iL m2 → LeT τ kp' st2 ⟨fun _ => .top, bH m2 i1 i2 iD iL x1 x2 (rec' .busy none)⟩ → V.heap[w.heap.size + 1]? = some (rec' .busy none) ∧
     ∃ B3 I3, MR R.w0 R.I0 B3 I3 (qO m2 i1 i2 iD iL x1 (rec' s' pe)) (V.putObj (w.heap.size + 1) (rec' s' pe)) ∧ Ext ws (V.putObj (w.heap.size + 1) (rec' s' pe)) I I3 ∧ (∀ j, kp' j → B3 j = Bs j) ∧ (V.putObj (w.heap.size + 1) (rec' s' pe)).heap[b2]? = W.heap[b2]? := fun {τ m2} s' pe hgd hle => by
     have h5 := hsr3.leT (R := R') hle
     obtain ⟨h6, h7⟩ := h5.xH (fullL _ _ _) keepL hBLs (rec' s' pe)
     rw [show (⟨fun _ => .top, bH m2 i1 i2 iD iL x1 x2 (rec' .busy none)⟩ : St).m = bH m2 i1 i2 iD iL x1 x2 (rec' .busy none) from rfl, RJ] at h7
     obtain ⟨⟨B3, I3, r1, r2, r3, -⟩, -⟩ := h7
     have hB3 : B3 i2 = .pointer (some ⟨b2, 0, none⟩) := (r3 i2 keep2).trans hB2s
     obtain ⟨b, e1, e2, e3⟩ := r1.objs i2 _ (full2 _ _ _)
     rw [hB3] at e1; cases e1
     refine ⟨h6, B3, I3, ?_, r2, r3, e2.trans hx2.symm⟩
     have := r1.Hy (id := i2) (o := .raw x2) (full2 _ _ _) ⟨b2, hB3, e3, fun k => ⟨fun ⟨off, hk⟩ => by rw [hB3] at hk; cases hk; rfl, fun e => ⟨0, e ▸ hB3⟩⟩⟩
     unfold bH at this
     rw [Ob n2D n2L] at this
     exact this
    match e, hk2 with
    | .normal, ⟨hIn, τ, hle⟩ =>
      obtain ⟨h6, B3, I3, r1, r2, r3, r4⟩ := fin .ready none (hM (k + 1) hk) hle;rw [recL] at h6;refine ⟨_, _, run_endRound (P := Tryz.prog) none h6, .inl ⟨rfl, ⟨I3, B3, ?_, ?_, r3, hk, hIn⟩, ?_⟩⟩
      ·rw [recL] at r1 ⊢; exact r1
      ·rw [recL] at r2; exact r2
      ·rw [recL] at r4; exact r4
    | .ret, ⟨τ, m2, hle, hgd, hK⟩ =>
      obtain ⟨h6, B3, I3, r1, r2, r3, r4⟩ := fin .done (some .ret) hgd hle;rw [recL] at h6;refine ⟨_, _, run_endRound (P := Tryz.prog) (some .ret) h6, .inr ⟨rfl, .ret, B3, I3, m2, ?_, ?_, r3, hgd, .inl ⟨rfl, hK⟩⟩⟩
      ·rw [recL] at r1 ⊢; exact r1
      ·rw [recL] at r2; exact r2
    | .exit id, ⟨τ, m2, hle, hgd, hK⟩ =>
      obtain ⟨h6, B3, I3, r1, r2, r3, r4⟩ := fin .done (some (.exit id)) hgd hle;rw [recL] at h6;refine ⟨_, _, run_endRound (P := Tryz.prog) (some (.exit id)) h6, .inr ⟨rfl, .exit id, B3, I3, m2, ?_, ?_, r3, hgd, .inr ⟨id, rfl, hK⟩⟩⟩
      ·rw [recL] at r1 ⊢; exact r1
      ·rw [recL] at r2; exact r2
  | _ => exact hk1.elim
 ·-- the loop has ended
  have over : ∀ {W : World} {B1 : Nat → Value} {I1 : Nat → Nat → Prop} {m2 : Mem} {s' : LoopState} {pe : Option Code} (y : Obj), MR R.w0 R.I0 B1 I1 (qO m2 i1 i2 iD iL x1 (rec' s' pe)) W → Ext ws W I I1 → (∀ j, kp' j → B1 j = Bs j) → GoodM R.keep s0 i1 i2 iD iL m2 →
   W.heap[w.heap.size + 1]? = some (rec' s' pe) ∧ SR R n ds ⟨eP s0 w.heap.size iD, fF m2 iD⟩ { a with defers := { target := .collected w.heap.size, args := #[] } :: a.defers } (W.putObj (w.heap.size + 1) y) := fun {W B1 I1 m2 s' pe} y r1 r2 r3 hgd => by
   have hBL := (r3 iL keepL).trans hBLs
   obtain ⟨b, e1, e2, -⟩ := r1.objs iL _ (fullL _ _ _)
   rw [hBL] at e1; cases e1
   obtain ⟨r4, r5⟩ := r1.xH (fullL _ _ _) hBL y
   rw [QE] at r4
   exact ⟨e2, finish r4 (r2.trans r5) r3 hgd⟩
  rintro e V ⟨⟨v, rfl⟩, (⟨I1, B1, r1, r2, r3, r4, rI⟩ | ⟨c, B1, I1, m2, r1, r2, r3, hgd, hc⟩)⟩
  ·obtain ⟨h6, h7⟩ := over (zk fn a.tmps #[p0, p1] assign body w.heap.size .exhausted none) r1 r2 r3 (hM _ (Nat.le_refl _))
   rw [recL] at h6
   exact ⟨none, _, run_endLoop (P := Tryz.prog) h6 (by simp), ⟨_, hdone rI _, h7⟩⟩
  ·obtain ⟨h6, h7⟩ := over (zk fn a.tmps #[p0, p1] assign body w.heap.size .exhausted (some c)) r1 r2 r3 hgd
   rw [recL] at h6
   refine ⟨some c, _, run_endLoop (P := Tryz.prog) h6 (by simp), ?_⟩
   rcases hc with ⟨rfl, hK⟩ | ⟨id, rfl, hK⟩
   ·exact wpIn_ret ⟨_, hK _, h7⟩
   ·exact wpIn_exit ⟨_, hK _, h7⟩
theorem A1.mH (a : A1) : a.ren (fun j => j) = a := by cases a <;> rfl
theorem A.mH (a : A) : a.ren (fun j => j) = a := by
 have h1 : ∀ l : List A1, l.map (A1.ren fun j => j) = l := fun l => by
  rw [show (A1.ren fun j => j) = (fun a => a) from funext A1.mH]; simp
 cases a <;> simp [A.ren, h1]
theorem O.mH (o : O) : o.ren (fun j => j) = o := by
 cases o with
 | box ty cells => simp only [O.ren]; rw [show (A.ren fun j => j) = (fun a => a) from funext A.mH]; simp
 | rows ty xs => simp only [O.ren]; rw [show (A1.ren fun j => j) = (fun a => a) from funext A1.mH]; simp
 | map ents => simp only [O.ren]; simp [A1.mH]
 | _ => rfl
theorem Le.toT {kp : Nat → Prop} {st st' : St} (h : Le kp st st') : LeT (fun j => j) kp st st' := by
 refine ⟨fun t => ?_, fun j o ho => ?_, fun i j _ _ e => e, h.wf, fun j hj => ⟨rfl, h.kept j hj⟩, h.dd⟩
 ·rw [A.mH]; exact h.s t
 ·rw [O.mH];rcases h.m j with e | e
  ·rw [e] at ho; cases ho
  ·rw [← e]; exact ho
theorem wE {P : Go.Program} {T : Tab} (hT : T.Ok P) {f : FuncId} {fn : Func} {c : Code} {l : List ResultVar} {args : List A} {r : A} (hf : P.funcs[f]? = some fn) (hn : (fn.name == "runtime.NumGoroutine") = false) (hb : fn.body = some c) (hl : fn.results.toList = l) (hd : args.all (fun a => a.ids.isEmpty && !(match a with | .defs _ => true | _ => false)) = true) (hr : r.ids = []) (hle : decide (args.length ≤ fn.ntmps ∧ fn.ntmps ≤ DID) = true)
 (hW : ∀ R : Ref, R.keep = (fun _ => False) → W P R fn.ntmps [] ⟨entry args, Mem.nil⟩ c (fun e st => (e = .normal ∨ e = .ret) ∧ ((dfs (st.s DID) = [] ∧ aU T st l = some r) ∨
   ∃ b iD, dfs (st.s DID) = [{ target := .collected b, args := #[] }] ∧ st.s (DID + 1) = .pinP (.pointer (some ⟨b, 0, none⟩)) iD 0 ∧ st.m iD = some (.raw (.deferred (some []))) ∧ aU T ⟨st.s, upd st.m iD (some (.raw (.deferred none)))⟩ l = some r))) (m : Mem) : COk P f args m r := by
 refine ⟨enters_of hf hn hb, hr, fun m' _ => ?_⟩
 intro w0 I0 B I w vals hm hv
 have hlen := lQ hv
 have hids : ∀ a ∈ args, a.ids = [] := fun a ha => by have := List.all_eq_true.1 hd a ha; simp only [Bool.and_eq_true] at this; simpa using this.1
 have hdf : ∀ a ∈ args, ∀ l, a ≠ .defs l := fun a ha l e => by have := List.all_eq_true.1 hd a ha; subst e; simp at this
 obtain ⟨hle1, hle2⟩ := of_decide_eq_true hle
 refine (callsIn_wide (n := 5)).1 (callsIn_of_wp_marks hf hb trivial ?_ rfl)
 have h0 : SR ⟨w, I, w, I, B, fun _ => False⟩ fn.ntmps [] ⟨entry args, Mem.nil⟩ { tmps := vals.toArray ++ Array.replicate (fn.ntmps - vals.toArray.size) undef, defers := [] } w := by
  exact Y5
 refine wpIn_mono (wpIn_wide.2 (hW _ rfl _ w h0)) ?_
 rintro e a' w' ⟨st', ⟨he, hres⟩, hsr⟩
 have post : LeavesInM Fence.wide 5 P fn a'.tmps (fun e w' => ∃ v I', e = .returned v ∧ Below w.heap.size w w' ∧ (∀ b o, I b o → I' b o) ∧ (∀ b o, I' b o → I b o ∨ (w.heap.size ≤ b ∧ b < w'.heap.size)) ∧ RV B w' I' r v) a'.defers .returning w' := by
  rcases hres with ⟨hdn, hres⟩ | ⟨b, iD, hdn, hpin, hiD, hres⟩
  ·obtain ⟨⟨B', I', hm', hx', -, hs'⟩, -, -, -, hds, -⟩ := hsr;obtain ⟨v, h1, h2, h3⟩ := uZ hT hm' hs' hl hres;rw [hds, hdn];exact ⟨v, h1, v, I', rfl, hm'.below, hm'.base, fun b o h => (hm'.old b o h).imp id fun k => ⟨k, hm'.there b o h⟩, h2.mono (Ext.refl _ _) fun j hj => by rw [h3] at hj; simp at hj⟩
  ·obtain ⟨⟨B', I', hm', hx', -, hs'⟩, -, -, -, hds, -⟩ := hsr;rw [hds, hdn];have hp := hs' (DID + 1);rw [hpin] at hp;obtain ⟨b0, hp1, hp2⟩ := hp;cases hp2
   obtain ⟨hm2, hE2⟩ := hm'.xH hiD hp1 (.deferred none);obtain ⟨b1, e1, e2, -⟩ := hm'.objs iD _ hiD;rw [hp1] at e1; cases e1;obtain ⟨v, h1, h2, h3⟩ := uZ (st := ⟨st'.s, upd st'.m iD (some (.raw (.deferred none)))⟩) hT hm2 (fun t => (hs' t).mono hE2 fun _ _ => rfl) hl hres;refine ⟨by simp, .inl ⟨_, _, rfl, run_takeDeferred e2, ?_⟩⟩;exact ⟨v, h1, v, I', rfl, hm2.below, hm2.base, fun b o h => (hm2.old b o h).imp id fun k => ⟨k, hm2.there b o h⟩, h2.mono (Ext.refl _ _) fun j hj => by rw [h3] at hj; simp at hj⟩
 rcases he with rfl | rfl
 ·exact post
 ·exact post
theorem Kg (xs : List (List C)) (mn : C) (name : ByteArray) (M : Mem) (i1 i2 : Nat) (h1 : M i1 = none) (h2 : M i2 = none) (h12 : i1 ≠ i2) : dJ Tryz.prog 64 [.agg [.sl xs, mn], .c (.str name)] M [] (.fn 112 [i1, i2])
 (upd (upd M i1 (some (.box 25 [.c (.sl xs), .c mn]))) i2 (some (.box 9 [.c (.str name)]))) := by
 have liv : ∀ j, (M j).isSome = true → (upd (upd M i1 (some (.box 25 [.c (.sl xs), .c mn]))) i2 (some (.box 9 [.c (.str name)])) j).isSome = true := fun j hj => by
  unfold upd; split
  ·rfl
  ·split
   ·rfl
   ·exact hj
 refine ⟨enters_of Tryz.func64 (by kernel_rfl) rfl, fun j hj => ?_, liv, fun hw j o ho i hi => ?_, fun w0 I0 B I w vals hm hv => ?_⟩
 ·simp [A.ids] at hj
  rcases hj with rfl | rfl
  ·rw [upd_ne _ _ h12, upd_same]; rfl
  ·rw [upd_same]; rfl
 ·unfold upd at ho
  split at ho
  ·cases ho; simp [O.ids, A.ids] at hi
  ·split at ho
   ·cases ho; simp [O.ids, A.ids] at hi
   ·exact liv i (hw j o ho i hi)
 ·match vals, hv with
  | [v, u], ⟨hp, hn, _⟩ =>
    obtain ⟨us, rfl, hus⟩ := hp;match us, hus with
    | [cv, mv], ⟨hc, hmn, _⟩ =>
      obtain rfl : u = .string name := (RC.toStr hn).1;refine (XH cv mv name w).mono ?_;rintro e w' ⟨rfl, rfl⟩;have hb1 : Below w.heap.size w (w.alloc (.cells #[cv, mv] 25)) := (Below.refl _ _).alloc (Nat.le_refl _) _;have hx1 := hm.box (id := i1) h1 (ty := 25) (cells := [.c (.sl xs), .c mn]) (vs := [cv, mv]) ⟨⟨hc, (RC.one hc).1⟩, ⟨hmn, (RC.one hmn).1⟩, trivial⟩ (fun j hj => by simp [A.ids] at hj);have hE1 := hm.ext hb1 (fun _ _ k => k);have h2' : upd M i1 (some (O.box 25 [.c (.sl xs), .c mn])) i2 = none := by rw [upd_ne _ _ (Ne.symm h12)]; exact h2
      have hn1 := RC.mono hE1 hn;have hx2 := hx1.box (id := i2) h2' (ty := 9) (cells := [.c (.str name)]) (vs := [.string name]) ⟨⟨hn1, rfl⟩, trivial⟩ (fun j hj => by simp [A.ids] at hj);have hb2 : Below (w.alloc (.cells #[cv, mv] 25)).heap.size (w.alloc (.cells #[cv, mv] 25)) ((w.alloc (.cells #[cv, mv] 25)).alloc (.cells #[.string name] 9)) := (Below.refl _ _).alloc (Nat.le_refl _) _;have hsz : (w.alloc (.cells #[cv, mv] 25)).heap.size = w.heap.size + 1 := World.size_alloc _ _;refine ⟨_, _, I, rfl, hx2, hE1.trans (hx1.ext hb2 (fun _ _ k => k)), fun j hj _ => ?_, ?_⟩
      ·rw [upd_ne _ _ (fun e => by subst e; simp [h2] at hj), upd_ne _ _ (fun e => by subst e; simp [h1] at hj)]
      ·show _ = Value.func _ _ _;rw [hsz];simp only [List.map_cons, List.map_nil, upd_same];rw [upd_ne _ _ h12, upd_same]
theorem pG {cs : List Class} (hS : fu cs) : ∀ l : List (Nat × Nat), (dL cs l).length ≤ l.length * 1048576
 | [] => by simp [dL]
 | x :: l => by
   have ih := pG hS l;unfold dL at *;rw [List.flatMap_cons, List.length_append, List.length_cons];have : (mK cs x).length ≤ 1048576 := by
    unfold mK;cases h : cs[x.2]? with
    | none => simp
    | some k => have := (hS k (List.mem_of_getElem? h)).1; simpa [dD] using this
   omega
theorem XP {n : Nat} : ∀ t, n ≤ t → (fun _ : Nat => A.top) t = A.top := fun _ _ => rfl
theorem Yd {n k : Nat} {s : Nat → A} {x : A} (h : ∀ t, n ≤ t → s t = A.top) (hk : k < n) : ∀ t, n ≤ t → upd s k x t = A.top := fun t ht => by
 rw [upd_ne _ _ (by omega)]; exact h t ht
theorem vk {m m' : Mem} (h : MLe m m') : ∀ j o, m' j = some o → m j = some o := fun j o ho => by
 rcases h j with e | e
 ·rw [e] at ho; cases ho
 ·rw [← e]; exact ho
def gK (cs : List Class) (mn : C) (c : Class) (b : Bool) (l : List ByteArray) : Mem :=
 upd (upd (upd (upd (upd Mem.nil 2 (some (.box 25 [.c (.sl (cs.map au)), .c mn]))) 3 (some (.box 42 ((au c).map A.c)))) 4 (some (.box 4 [.c (.bool b)]))) 5 (some (.box 30 [.own 50]))) 50 (some (.arr 9 1 (l.map cStr)))
def kG : Nat → A := upd (upd (upd (upd (upd (fun _ => .top) 2 (.ptr 2 0)) 3 (.ptr 3 0)) 4 (.ptr 4 0)) 5 (.ptr 5 0)) 6 .nil
theorem KR : ∀ t, ∀ j ∈ (kG t).ids, j ≤ 5 := by
 intro t j hj
 unfold kG upd at hj
 repeat' (split at hj)
 all_goals (simp [A.ids] at hj)
 all_goals omega
theorem Ra {y : Method} {l : List Method} : (dO (oV y.name) l < 0 → nV y l = true) ∧ ∀ o, l[(dO (oV y.name) l).toNat]? = some o → 0 ≤ dO (oV y.name) l → nV y l = gH y o := by
 obtain ⟨h1, h2⟩ := BA (oV y.name) l;refine ⟨fun h => ?_, fun o ho h => ?_⟩
 ·unfold nV; rw [h1 h]
 ·unfold nV; rw [← h2 h, ho]
set_option maxHeartbeats 4000000 in
theorem Qb (cs : List Class) (mn : C) (c : Class) (hS : fu cs) (hlen : cs.length ≤ 16) (hc : c ∈ cs) (m : Mem) : COk Tryz.prog 34 [.agg [.sl (cs.map au), mn], .agg (au c)] m (.c (.bool (dQ cs c))) := by
 refine (wE ah Tryz.func34 (by kernel_rfl) rfl rfl (by rfl) (by rfl) (by rfl) (fun R hkeep => ?_) m);refine OJ ?_;refine W.Du true 5 0 50 9 1 rfl rfl rfl ?_;refine OJ ?_;refine zm1 ?_;refine aj 3 CV ?_;refine jo rfl rfl rfl rfl rfl rfl (by simp) cw2 (Kg (cs.map au) mn c.name _ 1000 1001 rfl rfl (by decide)) ?_;refine mU ?_;refine W.zw cs c.name mn 1000 1001 1002 1003 kG (fun k => gK cs mn c false (dL cs ((upX cs (cs.length + 1) 0 c.name).take k))) (fun k => ((upX cs (cs.length + 1) 0 c.name).take k).all (rA cs c) = true) (by omega) rfl rfl rfl (by decide) rfl rfl (by decide) rfl rfl ?sle ?sn ?m0 ?good ?round ?done
 case sle =>
  unfold kG;exact Uq
 case sn =>
  unfold kG;exact Pw
 case m0 =>
  refine vk ?_;unfold gK;(repeat (first | exact aV _ | exact aF _ | refine aT ?_ (by first | rfl | (simp only [ak, aB, Nat.reduceEqDiff, reduceIte, List.take_zero, dL, List.flatMap_nil, List.map_nil, au, List.map_cons]; done))))
 case good =>
  intro k hk;exact ZI
 case round =>
  intro R' l hk' k j kc x1 x2 xL hInv hitem hkc
  repeat (first | refine WI.seq ?_ | refine WI.block ?_ | refine WI.skip ?_ | refine WI.exit ?_ | refine WI.region ah 0 (by decide) (by kernel_rfl) (aR vM) ?_)
  refine ⟨rfl, fun xL' => ?_⟩
  have hkl : k < 17 + 1 := by
   have := (List.getElem?_eq_some_iff.1 hitem).1;have := nN cs (cs.length + 1) 0 c.name;omega
  have hkU : k < (upX cs (cs.length + 1) 0 c.name).length := (List.getElem?_eq_some_iff.1 hitem).1
  -- a round that says no
  have bad : rA cs c (k, j) = false → dQ cs c = false := fun h => by
   unfold dQ;have : (upX cs (cs.length + 1) 0 c.name).all (rA cs c) = false := by
    rw [List.all_eq_false];exact ⟨(k, j), List.mem_of_getElem? hitem, by rw [h]; decide⟩
   rw [this]; simp
  have hG : ∀ l, GoodM R.keep kG 1000 1001 1002 1003 (gK cs mn c false l) := fun l => by
   exact ZI
  by_cases hkn : k = cs.length
  ·subst hkn;refine zm2 ?_;refine WI.cond rfl (fun _ => ?_) (fun h => by cases h);refine zm2 ?_;refine WI.ret ⟨fun j => j, gK cs mn c false (dL cs ((upX cs (cs.length + 1) 0 c.name).take cs.length)), Le.toT ?_, hG _, fun b => ⟨.inr rfl, .inr ⟨b, 1002, rfl, rfl, rfl, ?_⟩⟩⟩
   ·simp only [bH, gK];refine dU ?sle ?mle ?swf ?mwf (fun j hj => iP (hG _) hj) (by rfl)
    case swf => repeat (first | exact bP _ | refine bQ ?_ (by simp [A.ids, ak, au]))
    case mwf => repeat (first | exact d9 _ | refine dS ?_ (by simp [A.ids, O.ids, ak, au]))
    case mle => repeat (first | exact aV _ | exact aF _ | refine aT ?_ (by first | rfl | (simp only [ak, aB, O.kill, A.kill, Nat.reduceEqDiff, reduceIte, Option.map_some, Option.map_none, List.map_cons, List.map_nil, au]; done)))
    case sle => repeat (first | exact aM _ | exact aH _ | refine aL ?_ (by first | rfl | (simp only [ak, bB, A.kill, aD, aC, Nat.reduceEqDiff, reduceIte, au]; done)))
   ·simp only [Tryz.f34, aU, ay, toT, fin, eP, fF, DID, exb, simprocAttr, gK, kG];rw [bad (by rw [l7 hkc]; simp [Cg])]
  have hkn' : decide ((k : Int) = (cs.length : Int)) = false := by simp; omega
  have hF : List.map cStr (dL cs ((upX cs (cs.length + 1) 0 c.name).take k)) ++ List.map cStr (dD kc.fields) = List.map cStr (dL cs ((upX cs (cs.length + 1) 0 c.name).take (k + 1))) := by
   rw [List.take_add_one, hitem];simp only [Option.toList_some];rw [BZ hkc, List.map_append]
  have hn50 : ¬ R'.keep 50 := fun h => by
   rw [hk', hkeep] at h;rcases h with h | ⟨t, h⟩ | h
   ·exact h
   ·have := KR t 50 h; omega
   ·omega
  -- a method that does not fit
  have bad2 : ∀ y ∈ c.methods, nV y kc.methods = false → dQ cs c = false := fun y hy h => bad (by
   rw [l7 hkc];unfold Cg;have : (c.methods.all fun y => nV y kc.methods) = false := by
    rw [List.all_eq_false];exact ⟨y, hy, by rw [h]; decide⟩
   rw [this]; simp)
  have hkeepL : ∀ j, R'.keep j → (upd (bH (gK cs mn c false (dL cs ((upX cs (cs.length + 1) 0 c.name).take (k + 1)))) 1000 1001 1002 1003 x1 x2 xL') 8 (some (.box 42 ((au kc).map A.c))) j).isSome = true := fun j hj => by
   rw [hk'] at hj;unfold upd;split
   ·rfl
   ·exact iP (hG _) hj
  have goodR : (kc.super.toList.isEmpty || cs.any (ji kc.super)) = true → (c.methods.all fun y => nV y kc.methods) = true → ((upX cs (cs.length + 1) 0 c.name).take (k + 1)).all (rA cs c) = true := fun h1 h2 => by
   rw [List.take_add_one, hitem, List.all_append, hInv];simp only [Option.toList_some, List.all_cons, List.all_nil, Bool.and_true, Bool.true_and];rw [l7 hkc];unfold Cg;rw [h1, h2];simp; exact hkn
  by_cases hse : kc.super.toList = []
  ·have hse' : (kc.super.toList == []) = true := by simp [hse]
   have good := goodR (by rw [hse]; rfl);refine abh ?_;refine WI.cond rfl (fun h => by cases h) (fun _ => ?_);refine zm2 ?_;refine LQ ?_;refine zm2 ?_;exact zt2
  ·have hse' : (kc.super.toList == []) = false := by simp [hse]
   refine abh ?_;refine Rj ?_;refine aj 13 Yl ?_;refine fJ rfl rfl rfl rfl rfl (by simp) (bM fO (bM (Ar (qB rfl rfl)) gJ)) (by rfl) (by rfl) (qN cs 65 [au kc] (ji kc.super) (by omega) (fun x _ m => Md x kc m)) ?_;refine aA vM ?_;refine WI.cond rfl ?_ ?_
   ·intro hal;refine zm2 ?_;refine WI.ret ⟨fun j => j, gK cs mn c false (dL cs ((upX cs (cs.length + 1) 0 c.name).take k)), Le.toT ?_, hG _, fun b => ⟨.inr rfl, .inr ⟨b, 1002, rfl, rfl, rfl, ?_⟩⟩⟩
    ·exact zM
    ·simp only [Tryz.f34, aU, ay, toT, fin, eP, fF, DID, exb, simprocAttr, gK, kG];rw [bad (by
      rw [l7 hkc];unfold Cg;have h1 : kc.super.toList.isEmpty = false := by cases h : kc.super.toList with | nil => exact absurd h hse | cons _ _ => rfl
      have h2 : cs.any (ji kc.super) = false := by simpa using hal
      rw [h1, h2]; simp)]
   ·intro hal;have good := goodR (by
     have h2 : cs.any (ji kc.super) = true := by simpa using hal
     rw [h2]; simp)
    refine zm2 ?_;refine LQ ?_;refine zm2 ?_;exact zt2
 case done =>
  intro hAll b;rw [List.take_length] at hAll ⊢;have hcl := (hS c hc);have hmN : ∀ l : List Method, (l.map (·.name)).length = l.length := fun l => by simp
  repeat (first | refine W.q ?_ | refine W.g ?_ (by simp only [exb, simprocAttr, eP, fF, DID, gK, kG, au]; rfl))
  refine W.mZ 6 60 9 1 rfl rfl ?_;refine W.loop (ι := Nat) (fun q => ⟨upd (upd (upd (upd (upd (upd (eP (fun _ => .top) b 1002) 4 (.ptr 4 0)) 5 (.ptr 5 0)) 6 (.own 60)) 67 (.c (.sl (c.methods.map aI)))) 68 (.c (.int .i64 c.methods.length))) 69 (.c (.int .i64 q)),
   upd (fF (gK cs mn c false (dL cs (upX cs (cs.length + 1) 0 c.name))) 1002) 60 (some (.arr 9 1 (((c.methods.take q).map (·.name)).map cStr)))⟩) (fun q => q ≤ c.methods.length ∧ (c.methods.take q).all (fun m => jT (dD m.params)) = true) (fun q => c.methods.length - q) 0 ?start ⟨Nat.zero_le _, rfl⟩ ?round
  case start =>
   simp only [eP, fF, gK, DID];refine dU ?sle ?mle ?swf ?mwf (aQ hkeep) (by rfl)
   case swf => repeat (first | exact bP _ | refine bQ ?_ (by simp [A.ids, ak, au, List.take_zero]))
   case mwf => repeat (first | exact d9 _ | refine dS ?_ (by simp [A.ids, O.ids, ak, au, List.take_zero]))
   case mle => repeat (first | exact aV _ | exact aF _ | refine aT ?_ (by first | rfl | (simp only [ak, aB, O.kill, A.kill, Nat.reduceEqDiff, reduceIte, Option.map_some, Option.map_none, List.map_cons, List.map_nil, au, List.take_zero]; done)))
   case sle => repeat (first | exact aM _ | exact aH _ | refine aL ?_ (by first | rfl | (simp only [ak, bB, A.kill, aD, aC, Nat.reduceEqDiff, reduceIte, au, List.take_zero]; done)))
  case round =>
   rintro q ⟨hq, hon⟩;refine Yy ?_;refine W.cond rfl ?_ ?_
   ·intro hlt;replace hlt := dtl hlt;obtain ⟨y, hy⟩ : ∃ y, c.methods[q]? = some y := ⟨_, List.getElem?_eq_getElem hlt⟩;have hyp := hcl.2.2 y (List.mem_of_getElem? hy)
    repeat (first | refine W.q ?_ | refine W.g ?_ (by simp only [exb, simprocAttr, eP, fF, DID, gK, au, bA hy, aI]; rfl))
    refine zm1 ?_;refine aj 4 yS ?_;refine cK ah 60 rfl rfl rfl rfl rfl rfl rfl rfl (by first | rfl | (simp only [exb, simprocAttr, eP, fF, DID, gK, au]; rfl)) rfl rfl rfl rfl (cu hkeep) (by simp) (by have h1 := List.length_take_le q c.methods; simp only [List.length_map, List.length_cons, List.length_nil]; omega) (by decide) ?_;refine aA yS ?_;refine W.seq ?_;refine zm1 ?_;refine aj 2 yS ?_;refine av rfl rfl rfl rfl rfl (by simp) cw1 (Dp y.params (by omega) _) ?_;refine aj 0 yS ?_;refine av rfl rfl rfl rfl rfl (by simp) cw1 (zq (dD y.params) (by simp [dD]; omega) _) ?_;refine aA yS ?_;refine W.cond rfl ?_ ?_
    ·intro hb;refine Yy ?_;refine RZ ?_;simp only [Tryz.f34, aU, ay, toT, fin, eP, fF, DID, exb, simprocAttr, gK];have : dQ cs c = false := by
      unfold dQ;have : (c.methods.all fun m => jT (dD m.params)) = false := by
       rw [List.all_eq_false];exact ⟨y, List.mem_of_getElem? hy, by simpa using hb⟩
      rw [this]; simp
     rw [this]
    ·intro hb;refine Yy ?_;refine ⟨q + 1, ⟨hlt, ?_⟩, by omega, ?_⟩
     ·rw [List.take_add_one, hy, List.all_append, hon]; simpa using hb
     simp only [eP, fF, gK, DID];refine dU ?sle ?mle ?swf ?mwf (aQ hkeep) (by rfl)
     case swf => repeat (first | exact bP _ | refine bQ ?_ (by simp [A.ids, ak, au, aP (show q + 1 < 9223372036854775808 by omega), List.take_add_one, hy, Option.toList_some, List.map_append, cStr]))
     case mwf => repeat (first | exact d9 _ | refine dS ?_ (by simp [A.ids, O.ids, ak, au, aP (show q + 1 < 9223372036854775808 by omega), List.take_add_one, hy, Option.toList_some, List.map_append, cStr]))
     case mle => repeat (first | exact aV _ | exact aF _ | refine aT ?_ (by first | rfl | (simp only [ak, aB, O.kill, A.kill, Nat.reduceEqDiff, reduceIte, Option.map_some, Option.map_none, List.map_cons, List.map_nil, au, aP (show q + 1 < 9223372036854775808 by omega), List.take_add_one, hy, Option.toList_some, List.map_append, cStr]; done)))
     case sle => repeat (first | exact aM _ | exact aH _ | refine aL ?_ (by first | rfl | (simp only [ak, bB, A.kill, aD, aC, Nat.reduceEqDiff, reduceIte, au, aP (show q + 1 < 9223372036854775808 by omega), List.take_add_one, hy, Option.toList_some, List.map_append, cStr]; done)))
   ·intro hge;replace hge := dnl hge;obtain rfl : q = c.methods.length := by omega
    rw [List.take_length] at hon;have hfl := pG hS (upX cs (cs.length + 1) 0 c.name);have hul := nN cs (cs.length + 1) 0 c.name;have hval : dQ cs c = (jT (dL cs (upX cs (cs.length + 1) 0 c.name)) && jT (c.methods.map (·.name))) := by
     unfold dQ;rw [hAll, hon]; simp
    refine Yy ?_;refine zm1 ?_;refine aj 1 yS ?_;refine av rfl rfl rfl rfl rfl (by simp) (bg (o8 rfl) jL) (zq (dL cs (upX cs (cs.length + 1) 0 c.name)) (by omega) _) ?_;cases h1 : jT (dL cs (upX cs (cs.length + 1) 0 c.name)) with
    | false =>
      exact aa5
    | true =>
      refine aj 2 (by simp only [exb, simprocAttr, eP, fF, DID, gK, au, List.take_length]; rfl) ?_;refine av rfl rfl rfl rfl rfl (by simp) (bg (o8 rfl) jL) (zq (c.methods.map (·.name)) (by simp; omega) _) ?_;exact aa5
theorem KH (cs : List Class) (mn : C) (c : Class) (hS : fu cs) (hlen : cs.length ≤ 16) (hc : c ∈ cs) (m : Mem) : COk Tryz.prog 33 [.agg (au c), .rptr [.sl (cs.map au), mn]] m (.c (.bool (!dQ cs c))) := by
 refine (aS ah Tryz.func33 (by kernel_rfl) rfl rfl (by rfl) (by rfl) (by rfl) (fun R hkeep => ?_) m);refine OJ ?_;refine zm1 ?_;refine aj 2 CV ?_;refine av rfl rfl rfl rfl rfl (by simp) cw2 (Qb cs mn c hS hlen hc _) ?_;refine xe0 ?_;refine W.rt ?_;simp only [Tryz.f33, aU, ay, toT, fin, exb, simprocAttr]
def eO (e : Int) (cs : List Class) : Int :=
 if e = 0 then (if 16 < cs.length then 6 else if jT (cs.map (·.name)) = false then 60 else if cs.any (fun c => !dQ cs c) = true then 60 else 0) else e
set_option maxHeartbeats 1000000 in
theorem MG (p : Program) (e : Int) (hS : fu p.classes) (hlen : p.classes.length ≤ 1000000000) (hck : ∀ m, COk Tryz.prog 30 [.agg (bI p)] m (.c (.int .i64 e))) (m : Mem) :
 COk Tryz.prog 16 [.agg (bI p)] m (.c (.int .i64 (eO e p.classes))) := by
 obtain ⟨cs, mn⟩ := p
 dsimp only at hS hlen hck ⊢
 refine (aS ah Tryz.func16 (by kernel_rfl) rfl rfl (by rfl) (by rfl) (by rfl) (fun R hkeep => ?_) m)
 repeat (first | refine W.q ?_ | refine W.g ?_ jJ)
 refine W.bR ah 0 (by decide) ?_
 refine aj 1 jJ ?_
 refine av rfl rfl rfl rfl rfl (by simp) cw1 (hck _) ?_
 refine xe0 ?_
 refine W.go ?_
 refine W.cond rfl ?_ ?_
 ·intro h
  have he : e ≠ 0 := by simpa using h
  refine W.go ?_
  refine W.rt ?_
  simp only [Tryz.f16, aU, ay, toT, fin, exb, simprocAttr]
  simp [eO, he]
 intro h
 have he : e = 0 := by simpa using h
 subst he
 refine W.go ?_
 refine W.cond rfl ?_ ?_
 ·intro h
  have hl : 16 < cs.length := by simp at h; omega
  refine W.go ?_
  refine W.rt ?_
  simp only [Tryz.f16, aU, ay, toT, fin, exb, simprocAttr]
  simp [eO, hl]
 intro h
 have hl : ¬ 16 < cs.length := by simp at h; omega
 refine W.go ?_
 refine W.mZ 4 4 9 1 rfl rfl ?_
 refine W.go ?_
 refine W.loop (ι := Nat) (fun k => ⟨upd (upd (upd (upd (upd (fun _ => .top) 1 (.ptr 1 0)) 4 (.own 4)) 17 (.c (.sl (cs.map au)))) 18 (.c (.int .i64 cs.length))) 19 (.c (.int .i64 k)),
  upd (upd Mem.nil 1 (some (.box 25 ((bI ⟨cs, mn⟩).map A.c)))) 4 (some (.arr 9 1 (((cs.take k).map (·.name)).map cStr)))⟩) (fun k => k ≤ cs.length) (fun k => cs.length - k) 0 ?start (Nat.zero_le _) ?round
 case start =>
  refine iM ?sle ?mle (aQ hkeep)
  case mle => repeat (first | exact aV _ | exact aF _ | refine aT ?_ (by first | rfl | (simp only [ak, aB, Nat.reduceEqDiff, reduceIte, bI, List.map_cons, List.map_nil, List.take_zero]; done)))
  case sle => repeat (first | exact aM _ | exact aH _ | refine aL ?_ (by first | rfl | (simp only [ak, aD, aC, Nat.reduceEqDiff, reduceIte, bI, List.map_cons, List.map_nil, List.take_zero]; done)))
 case round =>
  intro k hk;refine Yn ?_;refine W.cond rfl ?_ ?_
  ·intro hlt;replace hlt := dtl hlt;obtain ⟨x, hx⟩ : ∃ x, cs[k]? = some x := ⟨_, List.getElem?_eq_getElem hlt⟩
   repeat (first | refine W.q ?_ | refine W.g ?_ (by simp only [exb, simprocAttr, bI, bA hx, au]; rfl))
   refine zm1 ?_;refine aj 4 jJ ?_;refine cK ah 4 rfl rfl rfl rfl rfl rfl rfl rfl (by first | rfl | (simp only [exb, simprocAttr, bI]; rfl)) rfl rfl rfl rfl (cu hkeep) (by simp) (by have := List.length_take_le k cs; simp only [List.length_map, List.length_cons, List.length_nil]; omega) (by decide) ?_;refine aA jJ ?_;refine Yn ?_;refine Je ?_;refine iM ?sle ?mle (aQ hkeep)
   case mle => repeat (first | exact aV _ | exact aF _ | refine aT ?_ (by first | rfl | (simp only [ak, aB, Nat.reduceEqDiff, reduceIte, bI, O.kill, A.kill, Option.map_some, aP (show k + 1 < 9223372036854775808 by omega), List.take_add_one, hx, Option.toList_some, List.map_append, List.map_cons, List.map_nil, cStr]; done)))
   case sle => repeat (first | exact aM _ | exact aH _ | refine aL ?_ (by first | rfl | (simp only [ak, aD, aC, Nat.reduceEqDiff, reduceIte, bI, O.kill, A.kill, Option.map_some, aP (show k + 1 < 9223372036854775808 by omega), List.take_add_one, hx, Option.toList_some, List.map_append, List.map_cons, List.map_nil, cStr]; done)))
  ·intro hge;replace hge := dnl hge;obtain rfl : k = cs.length := by omega
   refine Yn ?_;refine zm1 ?_;refine aj 1 (by simp only [exb, simprocAttr, bI, List.take_length]; rfl) ?_;refine av rfl rfl rfl rfl rfl (by simp) (bg (o8 rfl) jL) (zq (cs.map (·.name)) (by simp; omega) _) ?_;cases h1 : jT (cs.map (·.name)) with
   | false =>
     refine aA jJ ?_;refine Yn ?_;refine jA ?_;refine Yn ?_;refine W.rt ?_;simp only [Tryz.f16, aU, ay, toT, fin, exb, simprocAttr];simp [eO, hl, h1]
   | true =>
     refine aj 5 jJ ?_;refine fJ rfl rfl rfl rfl rfl (by simp) (bM fO (bM (Ar (qB rfl rfl)) gJ)) (by rfl) (by rfl) (qN cs 33 [[.sl (cs.map au), .sl (aO mn)]] (fun c => !dQ cs c) (by omega) (fun x hx m => KH cs (.sl (aO mn)) x hS (by omega) hx m)) ?_;refine aA jJ ?_;refine W.cond rfl ?_ ?_
     ·intro hb;have hb : cs.any (fun c => !dQ cs c) = true := hb;exact Z7
     ·intro hb;have hb : cs.any (fun c => !dQ cs c) = false := hb;exact Z7
def nameAt (cs : List Class) (x : Nat × Nat) : List ByteArray := match cs[x.2]? with | some k => [k.name] | none => []
def j6 (cs : List Class) (l : List (Nat × Nat)) : List ByteArray := l.flatMap (nameAt cs)
theorem rE (cs : List Class) : ∀ l : List (Nat × Nat), (j6 cs l).length ≤ l.length
 | [] => by simp [j6]
 | x :: l => by
   have ih := rE cs l;unfold j6 at *;rw [List.flatMap_cons, List.length_append, List.length_cons];have : (nameAt cs x).length ≤ 1 := by unfold nameAt; split <;> simp
   omega
def pY (E : Int) (cs : List Class) (n : ByteArray) : List ByteArray := if E = 0 then j6 cs (upX cs (cs.length + 1) 0 n) else []
def uL (cs : List Class) (mn : C) (l : List ByteArray) : Mem :=
 upd (upd (upd Mem.nil 2 (some (.box 25 [.c (.sl (cs.map au)), .c mn]))) 4 (some (.box 30 [.own 50]))) 50 (some (.arr 9 1 (l.map cStr)))
def rO : Nat → A := upd (upd (fun _ => .top) 2 (.ptr 2 0)) 4 (.ptr 4 0)
theorem KM : ∀ t, ∀ j ∈ (rO t).ids, j ≤ 5 := by
 intro t j hj
 unfold rO upd at hj
 repeat' (split at hj)
 all_goals (simp [A.ids] at hj)
 all_goals omega
set_option maxHeartbeats 1000000 in
theorem Ld (p : Program) (E : Int) (name : ByteArray) (hlen : p.classes.length ≤ 1000000000) (hchk : ∀ m, COk Tryz.prog 16 [.agg (bI p)] m (.c (.int .i64 E))) (m : Mem) :
 COk Tryz.prog 151 [.agg (bI p), .c (.str name)] m (.c (.sl ((pY E p.classes name).map cStr))) := by
 obtain ⟨cs, mn'⟩ := p
 dsimp only at hlen hchk ⊢
 generalize hmn : C.sl (aO mn') = mn
 have hpr : bI ⟨cs, mn'⟩ = [.sl (cs.map au), mn] := by rw [← hmn]; rfl
 rw [hpr] at hchk ⊢
 refine (wE ah Tryz.func151 (by kernel_rfl) rfl rfl (by rfl) (by rfl) (by rfl) (fun R hkeep => ?_) m)
 refine W.go ?_
 refine W.bR ah 0 (by decide) ?_
 refine xs0 1 ?_
 refine av rfl rfl rfl rfl rfl (by simp) cw1 (hchk _) ?_
 refine xe0 ?_
 refine W.cond rfl ?_ ?_
 ·intro h
  have he : E ≠ 0 := by simpa using h
  refine W.go ?_
  refine W.ret ⟨.inr rfl, .inl ⟨rfl, ?_⟩⟩
  simp only [Tryz.f151, aU, ay, toT, fin, exb, simprocAttr]
  simp [pY, he]
 intro h
 have he : E = 0 := by simpa using h
 subst he
 refine W.go ?_
 refine W.Du true 4 0 50 9 1 rfl rfl rfl ?_
 refine W.go ?_
 refine W.bR ah 0 (by decide) ?_
 refine xs0 2 ?_
 refine jo rfl rfl rfl rfl rfl rfl (by simp) cw2 (Kg (cs.map au) mn name _ 1000 1001 rfl rfl (by decide)) ?_
 refine xe0 ?_
 refine W.go ?_
 have hG : ∀ l, GoodM R.keep rO 1000 1001 1002 1003 (uL cs mn l) := fun l => by
  refine ⟨?_, rfl, rfl, rfl, rfl, ?_, aQ hkeep⟩
  ·unfold uL;exact VG
  ·show SWf _ _;unfold uL rO;exact Wx
 have hul := nN cs (cs.length + 1) 0 name
 refine W.zw cs name mn 1000 1001 1002 1003 rO (fun k => uL cs mn (j6 cs ((upX cs (cs.length + 1) 0 name).take k))) (fun _ => True) (by omega) rfl rfl rfl (by decide) rfl rfl (by decide) trivial rfl ?sle ?sn ?m0 (fun k _ => hG _) ?round ?done
 case sle =>
  unfold rO;exact Uq
 case sn =>
  unfold rO;exact Pw
 case m0 =>
  refine vk ?_;unfold uL;(repeat (first | exact aV _ | exact aF _ | refine aT ?_ (by first | rfl | (simp only [ak, aB, Nat.reduceEqDiff, reduceIte, List.take_zero, j6, List.flatMap_nil, List.map_nil]; done))))
 case round =>
  intro R' l hk' k j kc x1 x2 xL _ hitem hkc;have hn50 : ¬ R'.keep 50 := fun h => by
   rw [hk', hkeep] at h;rcases h with h | ⟨t, h⟩ | h
   ·exact h
   ·have := KM t 50 h; omega
   ·omega
  have hF : List.map cStr (j6 cs ((upX cs (cs.length + 1) 0 name).take k)) ++ [cStr kc.name] = List.map cStr (j6 cs ((upX cs (cs.length + 1) 0 name).take (k + 1))) := by
   rw [List.take_add_one, hitem];simp [j6, nameAt, hkc]
  refine Yp ?_;refine ⟨rfl, fun xL' => ?_⟩;refine Yp ?_;refine Rj ?_;refine aj 4 Mt ?_;refine cK ah 50 rfl rfl rfl rfl rfl rfl rfl rfl (by first | rfl | (simp only [exb, simprocAttr, bH, uL, rO]; rfl)) rfl rfl rfl rfl hn50 (by simp) (by have h1 := rE cs ((upX cs (cs.length + 1) 0 name).take k); have h3 := List.length_take_le k (upX cs (cs.length + 1) 0 name); have h4 := (List.getElem?_eq_some_iff.1 hitem).1; simp only [List.length_map, List.length_cons, List.length_nil, List.length_take] at *; omega) (by decide) ?_;refine aA Mt ?_
  repeat (first | refine WI.seq ?_ | refine WI.block ?_ | refine WI.skip ?_ | refine WI.exit ?_ | refine WI.region ah 0 (by decide) (by kernel_rfl) (aR Mt) ?_)
  refine ⟨trivial, fun j => j, Le.toT ?_⟩;simp only [bH, uL, ← hF];refine dU ?sle ?mle ?swf ?mwf (fun j hj => iP (hF ▸ hG _) hj) (by rfl)
  case swf => repeat (first | exact bP _ | refine bQ ?_ (by simp [A.ids, ak, bH, uL, cStr]))
  case mwf => repeat (first | exact d9 _ | refine dS ?_ (by simp [A.ids, O.ids, ak, bH, uL, cStr]))
  case mle => repeat (first | exact aV _ | exact aF _ | refine aT ?_ (by first | rfl | (simp only [ak, aB, O.kill, A.kill, Nat.reduceEqDiff, reduceIte, Option.map_some, Option.map_none, List.map_cons, List.map_nil, bH, uL, cStr]; done)))
  case sle => repeat (first | exact aM _ | exact aH _ | refine aL ?_ (by first | rfl | (simp only [ak, bB, A.kill, aD, aC, Nat.reduceEqDiff, reduceIte, bH, uL, cStr]; done)))
 case done =>
  intro _ b;rw [List.take_length]
  repeat (first | refine W.q ?_ | refine W.g ?_ (by simp only [exb, simprocAttr, eP, fF, DID, uL, rO]; rfl))
  refine RZ ?_;simp only [Tryz.f151, aU, ay, toT, fin, eP, fF, DID, exb, simprocAttr, uL];simp [pY]
theorem Qj (l : List ByteArray) (s : ByteArray) (hlen : l.length ≤ 1000000000000) (m : Mem) : COk Tryz.prog 169 [.c (.sl (l.map cStr)), .c (.str s)] m (.c (.int .i64 (dO (fun x => s.toList == x.toList) l))) := by
 refine (aS ah Tryz.func169 (by kernel_rfl) rfl rfl (by rfl) (by rfl) (by rfl) (fun R hkeep => ?_) m);refine W.go ?_;refine W.loop (ι := Nat) (fun k => ⟨upd (upd (upd (upd (upd (fun _ => .top) 0 (.c (.sl (l.map cStr)))) 1 (.c (.str s))) 4 (.c (.int .i64 0))) 7 (.c (.int .i64 l.length))) 8 (.c (.int .i64 k)), Mem.nil⟩) (fun k => k ≤ l.length ∧ (l.take k).any (fun x => s.toList == x.toList) = false) (fun k => l.length - k) 0 ?start ⟨Nat.zero_le _, rfl⟩ ?round
 case start =>
  exact Ae
 case round =>
  rintro k ⟨hkl, hno⟩;refine W.go ?_;refine W.cond rfl ?_ ?_
  ·intro hlt;replace hlt := dtl hlt;obtain ⟨x, hx⟩ : ∃ x, l[k]? = some x := ⟨_, List.getElem?_eq_getElem hlt⟩
   repeat (first | refine W.q ?_ | refine W.g ?_ O4)
   refine W.cond rfl ?_ ?_
   ·intro hp;refine zm6 ?_;simp only [Tryz.f169, aU, ay, toT, fin, exb, simprocAttr];rw [zn hno hx hp]
   ·intro hp;refine W.go ?_;refine ⟨k + 1, ⟨hlt, ?_⟩, by omega, ?_⟩
    ·rw [List.take_add_one, hx, List.any_append, hno]; simpa using hp
    exact O9
  ·intro hge;replace hge := dnl hge;obtain rfl : k = l.length := by omega
   rw [List.take_length] at hno;refine zm6 ?_;simp only [Tryz.f169, aU, ay, toT, fin, exb, simprocAttr];rw [iC hno]
theorem E8 (l : List ByteArray) (s : ByteArray) (hlen : l.length ≤ 1000000000000) (m : Mem) : COk Tryz.prog 150 [.c (.sl (l.map cStr)), .c (.str s)] m (.c (.bool (l.any (fun x => s.toList == x.toList)))) := by
 refine (aS ah Tryz.func150 (by kernel_rfl) rfl rfl (by rfl) (by rfl) (by rfl) (fun R hkeep => ?_) m);refine W.go ?_;refine zm1 ?_;refine xs0 2 ?_;refine av rfl rfl rfl rfl rfl (by simp) cw2 (Qj l s hlen _) ?_;refine xe0 ?_;refine zm6 ?_;simp only [Tryz.f150, aU, ay, toT, fin, exb, simprocAttr];rw [mP (fun x : ByteArray => s.toList == x.toList) l]
def pq (E : Int) (cs : List Class) (a b : ByteArray) : Bool := (pY E cs a).any (fun x => b.toList == x.toList)
theorem IB (E : Int) (cs : List Class) (n : ByteArray) : (pY E cs n).length ≤ cs.length + 1 := by
 unfold pY;split
 ·exact Nat.le_trans (rE _ _) (nN _ _ _ _)
 ·simp
theorem P6 (p : Program) (E : Int) (a b : ByteArray) (hlen : p.classes.length ≤ 1000000000) (hchk : ∀ m, COk Tryz.prog 16 [.agg (bI p)] m (.c (.int .i64 E))) (m : Mem) :
 COk Tryz.prog 123 [.agg (bI p), .c (.str a), .c (.str b)] m (.c (.bool (pq E p.classes a b))) := by
 have hcl := IB E p.classes a
 refine (aS ah Tryz.func123 (by kernel_rfl) rfl rfl (by rfl) (by rfl) (by rfl) (fun R hkeep => ?_) m)
 repeat (first | refine W.q ?_ | refine W.g ?_ jJ)
 refine W.bR ah 0 (by decide) ?_
 refine aj 2 jJ ?_
 refine av rfl rfl rfl rfl rfl (by simp) cw2 (Ld p E a hlen hchk _) ?_
 refine aj 1 jJ ?_
 refine av rfl rfl rfl rfl rfl (by simp) cw2 (E8 (pY E p.classes a) b (by omega) _) ?_
 refine xe0 ?_
 refine W.rt ?_;simp only [Tryz.f123, aU, ay, toT, fin, exb, simprocAttr] <;> rfl
def bq (E : Int) (cs : List Class) (n : ByteArray) : List ByteArray := if E = 0 then gN cs (cs.length + 1) n else []
theorem rT (p : Program) (E : Int) (name : ByteArray) (hlen : p.classes.length ≤ 1000000000) (hchk : ∀ m, COk Tryz.prog 21 [.agg (bI p)] m (.c (.int .i64 E))) (m : Mem) :
 COk Tryz.prog 170 [.agg (bI p), .c (.str name)] m (.c (.sl ((bq E p.classes name).map cStr))) := by
 obtain ⟨cs, mn⟩ := p
 dsimp only at hlen hchk ⊢
 refine (aS ah Tryz.func170 (by kernel_rfl) rfl rfl (by rfl) (by rfl) (by rfl) (fun R hkeep => ?_) m)
 repeat (first | refine W.q ?_ | refine W.g ?_ jJ)
 refine W.bR ah 0 (by decide) ?_
 refine aj 1 jJ ?_
 refine av rfl rfl rfl rfl rfl (by simp) cw1 (hchk _) ?_
 refine xe0 ?_
 refine W.cond rfl ?_ ?_
 ·intro h
  have he : E ≠ 0 := by simpa using h
  refine W.go ?_
  refine W.rt ?_
  simp only [Tryz.f170, aU, ay, toT, fin, exb, simprocAttr]
  simp [bq, he]
 intro h
 have he : E = 0 := by simpa using h
 refine W.go ?_
 refine W.bR ah 0 (by decide) ?_
 refine aj 2 jJ ?_
 refine av rfl rfl rfl rfl rfl (by simp) cw2 (Gb cs (.sl (aO mn)) name hlen _) ?_
 refine xe0 ?_
 refine W.go ?_
 refine W.rt ?_
 simp only [Tryz.f170, aU, ay, toT, fin, exb, simprocAttr]
 simp [bq, he]
theorem Gg (p : Program) (E : Int) (a b : ByteArray) (hlen : p.classes.length ≤ 1000000000) (hchk : ∀ m, COk Tryz.prog 21 [.agg (bI p)] m (.c (.int .i64 E))) (m : Mem) :
 COk Tryz.prog 161 [.agg (bI p), .c (.str a), .c (.str b)] m (.c (.bool ((bq E p.classes a).any (fun x => x.toList == b.toList)))) := by
 have hc := fun m => rT p E a hlen hchk m
 have hL : (bq E p.classes a).length ≤ 1000000001 := by
  unfold bq;split
  ·exact MO
  ·simp
 generalize bq E p.classes a = L at *
 refine (aS ah Tryz.func161 (by kernel_rfl) rfl rfl (by rfl) (by rfl) (by rfl) (fun R hkeep => ?_) m)
 refine W.go ?_
 refine W.bR ah 0 (by decide) ?_
 refine xs0 2 ?_
 refine av rfl rfl rfl rfl rfl (by simp) cw2 (hc _) ?_
 refine xe0 ?_
 refine W.go ?_
 refine W.loop (ι := Nat) (fun k => ⟨upd (upd (upd (upd (fun _ => .top) 2 (.c (.str b))) 11 (.c (.sl (L.map cStr)))) 12 (.c (.int .i64 L.length))) 13 (.c (.int .i64 k)), Mem.nil⟩)
  (fun k => k ≤ L.length ∧ ∀ i < k, (L[i]?).any (fun x => x.toList == b.toList) = false) (fun k => L.length - k) 0 ?start ⟨Nat.zero_le _, fun i hi => by omega⟩ ?round
 case start =>
  exact Ae
 case round =>
  rintro k ⟨hk, hall⟩;refine W.go ?_;refine W.cond rfl ?_ ?_
  ·intro hlt;replace hlt := dtl hlt;obtain ⟨x, hx⟩ : ∃ x, L[k]? = some x := ⟨_, List.getElem?_eq_getElem hlt⟩
   repeat (first | refine W.q ?_ | refine W.g ?_ O4)
   refine W.cond rfl ?_ ?_
   ·intro h;refine zm6 ?_;simp only [Tryz.f161, aU, ay, toT, fin, exb, simprocAttr];have h' : (x.toList == b.toList) = true := by simpa using h
    rw [List.any_eq_true.2 ⟨x, List.mem_of_getElem? hx, h'⟩]
   ·intro h;refine W.go ?_;refine ⟨k + 1, ⟨hlt, fun i hi => ?_⟩, by omega, ?_⟩
    ·rcases Nat.lt_succ_iff_lt_or_eq.1 hi with q | q
     ·exact hall i q
     ·subst q; rw [hx]; simpa using h
    exact O9
  ·intro hge;replace hge := dnl hge;obtain rfl : k = L.length := by omega
   refine zm6 ?_;simp only [Tryz.f161, aU, ay, toT, fin, exb, simprocAttr];have : L.any (fun x => x.toList == b.toList) = false := List.any_eq_false.2 fun x hx => by
    obtain ⟨i, hi⟩ := List.getElem?_of_mem hx;have := hall i (List.getElem?_eq_some_iff.1 hi).1;rw [hi] at this;simpa using this
   rw [this]
theorem zW (b : Bool) : (Lit.int .i64 (bG b)).wf = true := by cases b <;> decide
theorem G9 (p : Program) (m : Mem) : COk Tryz.prog 39 [.agg (bI p)] m (.c (.int .i64 (bG (bK p)))) := by
 refine ⟨enters_of Tryz.func39 (by kernel_rfl) rfl, rfl, fun m' _ => ?_⟩;intro w0 I0 B I w vals hm hv;match vals, hv with
 | [v], ⟨h1, _⟩ =>
   obtain ⟨d, hp⟩ := Fg hm.there h1;refine (Ej d w v p hp).mono ?_;exact Ub
theorem Sr (p : Program) (m : Mem) : COk Tryz.prog 30 [.agg (bI p)] m (.c (.int .i64 (bG (bK p)))) := by
 refine ⟨enters_of Tryz.func30 (by kernel_rfl) rfl, rfl, fun m' _ => ?_⟩;intro w0 I0 B I w vals hm hv;match vals, hv with
 | [v], ⟨h1, _⟩ =>
   obtain ⟨d, hp⟩ := Fg hm.there h1;refine (KJ d w v p hm.zA hp).mono ?_;exact Ub
end V
end Go.Proofs.YtgaipdillmleeaaGreat
end
section
namespace Go.Proofs.YtgaipdillmleeaaGreat
namespace V
theorem E9 (bs : ByteArray) : ∀ (n i : Nat) (r : List UInt8), bs.size - i = n → ByteArray.toList.loop bs i r = r.reverse ++ bs.data.toList.drop i := by
 intro n;induction n with
 | zero =>
   intro i r h;unfold ByteArray.toList.loop;have : ¬ i < bs.size := by omega
   rw [if_neg this, List.drop_eq_nil_of_le (by rw [Array.length_toList]; show bs.size ≤ i; omega)];simp
 | succ n ih =>
   intro i r h;have hi : i < bs.size := by omega
   unfold ByteArray.toList.loop;rw [if_pos hi, ih (i + 1) _ (by omega)];have hl : i < bs.data.toList.length := by rw [Array.length_toList]; exact hi
   rw [List.drop_eq_getElem_cons hl];have : bs.get! i = bs.data.toList[i] := by
    have hi' : i < bs.data.size := hi;show bs.data[i]! = _;rw [getElem!_pos bs.data i hi']; simp
   rw [this]; simp
theorem toList_data (s : ByteArray) : s.toList = s.data.toList := by
 unfold ByteArray.toList;rw [E9 s _ 0 [] rfl]; simp
theorem toList_inj {a b : ByteArray} : a.toList = b.toList ↔ a = b := by
 rw [toList_data, toList_data];refine ⟨fun h => ?_, fun h => by rw [h]⟩;cases a; cases b
 simpa using h
theorem fI {a b : ByteArray} : (a.toList == b.toList) = true ↔ a = b := by rw [beq_iff_eq, toList_inj]
theorem sj {l : List ByteArray} : jT l = true ↔ l.Nodup := by
 unfold jT;rw [decide_eq_true_eq];have e : (fun s : ByteArray => s.data.toList) = ByteArray.toList := funext fun s => (toList_data s).symm
 rw [e];exact ⟨fun h => (List.pairwise_map.1 h).imp fun hab e => hab (by rw [e]), fun h => List.Pairwise.map _ (fun a b hab hc => hab (toList_inj.1 hc)) h⟩
def bF (cs : List Class) : Nat → ByteArray → List Class
 | 0, _ => []
 | k + 1, name => match cs.find? (dB name) with
   | none => []
   | some c => c :: bF cs k c.super
theorem uG : ji = dB := rfl
theorem sG {cs : List Class} {name : ByteArray} {c : Class} (h : cs.find? (dB name) = some c) : c.name = name ∧ c ∈ cs := by
 refine ⟨?_, List.mem_of_find?_eq_some h⟩;have := List.find?_some h;exact fI.1 this
theorem Iq (cs : List Class) (name : ByteArray) : (∀ j, wz cs name = some j → cs[j]? = cs.find? (dB name) ∧ (cs.find? (dB name)).isSome = true) ∧ (wz cs name = none → cs.find? (dB name) = none) := by
 obtain ⟨h1, h2⟩ := BA (ji name) cs;rw [uG] at h1 h2;unfold wz;rw [uG];refine ⟨fun j hj => ?_, fun h => ?_⟩
 ·split at hj
  ·rename_i hi;cases hj
   obtain ⟨x, hx, -⟩ := rZ (dB name) cs hi;exact ⟨h2 hi, by rw [← h2 hi, hx]; rfl⟩
  ·cases hj
 ·split at h
  ·cases h
  ·rename_i hi; exact h1 (by omega)
theorem oN (cs : List Class) : ∀ (k m : Nat) (name : ByteArray), ∃ f : Nat → Nat, upX cs k m name = (List.range (bF cs k name).length).map (fun i => (m + i, f i)) ∧ ∀ i, i < (bF cs k name).length → cs[f i]? = (bF cs k name)[i]?
 | 0, m, name => ⟨fun _ => 0, rfl, fun i h => by simp [bF] at h⟩
 | k + 1, m, name => by
   obtain ⟨h1, h2⟩ := Iq cs name;unfold upX;cases hj : wz cs name with
   | none =>
     have := h2 hj;exact ⟨fun _ => 0, by simp [bF, this], fun i h => by simp [bF, this] at h⟩
   | some j =>
     obtain ⟨h3, h4⟩ := h1 j hj;obtain ⟨c, hc⟩ := Option.isSome_iff_exists.1 h4;rw [hc] at h3;have hs : sM cs j = c.super := by simp [sM, h3]
     obtain ⟨f, h5, h6⟩ := oN cs k (m + 1) c.super;refine ⟨fun i => if i = 0 then j else f (i - 1), ?_, fun i hi => ?_⟩
     ·dsimp only;rw [hs, h5];simp only [bF, hc, List.length_cons, List.range_succ_eq_map, List.map_cons, List.map_map]
      congr 1
      refine List.map_congr_left fun i _ => ?_;simp [Nat.add_assoc, Nat.add_comm 1 i]
     ·simp only [bF, hc, List.length_cons] at hi ⊢;cases i with
      | zero => simpa using h3
      | succ i => simpa using h6 i (by omega)
theorem iJ (cs : List Class) : ∀ (k : Nat) (name : ByteArray), gN cs k name = (bF cs k name).map (·.name)
 | 0, _ => rfl
 | k + 1, name => by
   unfold gN bF;cases h : cs.find? (dB name) with
   | none => rfl
   | some c => simp [iJ cs k c.super, (sG h).1]
theorem iq (cs : List Class) : ∀ (k : Nat) (name : ByteArray), ∀ d ∈ bF cs k name, d ∈ cs ∧ cs.find? (dB d.name) = some d
 | 0, _, d, hd => by simp [bF] at hd
 | k + 1, name, d, hd => by
   unfold bF at hd;cases h : cs.find? (dB name) with
   | none => rw [h] at hd; simp at hd
   | some c =>
     rw [h] at hd;rcases List.mem_cons.1 hd with rfl | hd
     ·obtain ⟨h1, h2⟩ := sG h;exact ⟨h2, by rw [h1]; exact h⟩
     ·exact iq cs k c.super d hd
theorem yN (cs : List Class) : ∀ (k a : Nat) (name : ByteArray), (bF cs k name).length < k → bF cs (k + a) name = bF cs k name
 | 0, a, name, h => by omega
 | k + 1, a, name, h => by
   rw [Nat.add_right_comm];unfold bF at h ⊢;cases hf : cs.find? (dB name) with
   | none => rfl
   | some c =>
     rw [hf] at h;simp only [List.length_cons] at h;simp only;rw [yN cs k a c.super (by omega)]
theorem yw (cs : List Class) : ∀ (k i : Nat) (name : ByteArray) (d : Class), (bF cs k name)[i]? = some d → (bF cs k name).drop i = bF cs (k - i) d.name
 | 0, i, name, d, h => by simp [bF] at h
 | k + 1, 0, name, d, h => by
   rw [List.drop_zero, Nat.sub_zero];unfold bF at h ⊢;cases hf : cs.find? (dB name) with
   | none => rw [hf] at h; simp at h
   | some c =>
     rw [hf] at h;simp at h; subst h;rw [(sG hf).1, hf]
 | k + 1, i + 1, name, d, h => by
   cases hf : cs.find? (dB name) with
   | none => simp [bF, hf] at h
   | some c =>
     have e : bF cs (k + 1) name = c :: bF cs k c.super := by
      conv => lhs; unfold bF
      rw [hf]
     rw [e] at h ⊢;rw [List.getElem?_cons_succ] at h;rw [List.drop_succ_cons, Nat.add_sub_add_right];exact yw cs k i c.super d h
theorem wW {cs : List Class} {d : Class} (h : cs.find? (dB d.name) = some d) : dX cs d.name = d := by unfold dX; rw [h]; rfl
theorem FN (x y : Method) : vJ x y = gH x y := rfl
theorem alike_refl (x : Method) : gH x x = true := by simp [gH]
theorem K9 {x y : Method} : gH x y = true ↔ x.type.toList = y.type.toList ∧ typesOf x.params = typesOf y.params := by simp [gH]
theorem Gy {x y z : Method} (h : gH x y = true) (k : gH y z = true) : gH x z = true := by
 rw [K9] at *; exact ⟨h.1.trans k.1, h.2.trans k.2⟩
theorem RH {cs : List Class} {c : Class} (k m : Nat) (name : ByteArray) : (upX cs k m name).all (rA cs c) = true ↔ ∀ i d, (bF cs k name)[i]? = some d → Cg cs c (m + i) d = true := by
 obtain ⟨f, h1, h2⟩ := oN cs k m name;rw [h1, List.all_eq_true];constructor
 ·intro h i d hd
  have hi := (List.getElem?_eq_some_iff.1 hd).1
  have := h (m + i, f i) (List.mem_map.2 ⟨i, List.mem_range.2 hi, rfl⟩)
  rwa [l7 ((h2 i hi).trans hd)] at this
 ·intro h x hx;obtain ⟨i, hi, rfl⟩ := List.mem_map.1 hx;have hi := List.mem_range.1 hi;have hd := List.getElem?_eq_getElem hi;rw [l7 ((h2 i hi).trans hd)];exact h i _ hd
theorem Bg (cs : List Class) (k m : Nat) (name : ByteArray) : dL cs (upX cs k m name) = (bF cs k name).flatMap fun d => dD d.fields := by
 obtain ⟨f, h1, h2⟩ := oN cs k m name;rw [h1];unfold dL;have : ∀ (l : List Class), (∀ i, i < l.length → cs[f i]? = l[i]?) → ((List.range l.length).map fun i => (m + i, f i)).flatMap (mK cs) = l.flatMap fun d => dD d.fields := by
  intro l h;have e : (List.range l.length).map (fun i => mK cs (m + i, f i)) = l.map fun d => dD d.fields := by
   refine List.ext_getElem? fun i => ?_;by_cases hi : i < l.length
   ·simp only [List.getElem?_map, List.getElem?_range hi, Option.map_some];rw [List.getElem?_eq_getElem hi];simp [mK, h i hi, List.getElem?_eq_getElem hi]
   ·exact Vu
  rw [List.flatMap_def, List.map_map, List.flatMap_def];exact congrArg List.flatten e
 exact this _ h2
theorem Cb (cs : List Class) (k m : Nat) (name : ByteArray) : j6 cs (upX cs k m name) = (bF cs k name).map (·.name) := by
 obtain ⟨f, h1, h2⟩ := oN cs k m name;rw [h1];unfold j6;have : ∀ (l : List Class), (∀ i, i < l.length → cs[f i]? = l[i]?) → ((List.range l.length).map fun i => (m + i, f i)).flatMap (nameAt cs) = l.map (·.name) := by
  intro l h;have e : (List.range l.length).map (fun i => nameAt cs (m + i, f i)) = l.map fun d => [d.name] := by
   refine List.ext_getElem? fun i => ?_;by_cases hi : i < l.length
   ·simp only [List.getElem?_map, List.getElem?_range hi, Option.map_some];rw [List.getElem?_eq_getElem hi];simp [nameAt, h i hi, List.getElem?_eq_getElem hi]
   ·exact Vu
  rw [List.flatMap_def, List.map_map];have e2 := congrArg List.flatten e;refine e2.trans ?_;clear e e2 h;induction l with
  | nil => rfl
  | cons x l ih => simp [ih]
 exact this _ h2
theorem xZ (l : List Slot) : jO l = false ↔ (dD l).Nodup := by
 unfold jO dD;rw [List.any_eq_false, List.Nodup, List.pairwise_map, List.pairwise_iff_getElem];constructor
 ·intro h i j hi hj hij e;have h1 := h j (List.mem_range.2 hj);refine h1 (List.any_eq_true.2 ⟨i, List.mem_range.2 hij, ?_⟩);simp [Bz, List.getElem?_eq_getElem hi, List.getElem?_eq_getElem hj, e]
 ·intro h j hj hc;have hj := List.mem_range.1 hj;obtain ⟨i, hi, he⟩ := List.any_eq_true.1 hc;have hij := List.mem_range.1 hi;have hil : i < l.length := by omega
  have hne := h i j hil hj hij;simp only [Bz, List.getElem?_eq_getElem hil, List.getElem?_eq_getElem hj] at he;exact hne (fI.1 he).symm
theorem zL {α : Type} (l : List α) (g : α → ByteArray) : (∀ i x, l[i]? = some x → ((l.take i).any fun o => (g o).toList == (g x).toList) = false) ↔ (l.map g).Nodup := by
 rw [List.Nodup, List.pairwise_map, List.pairwise_iff_getElem];constructor
 ·intro h i j hi hj hij e;have h1 := h j l[j] (List.getElem?_eq_getElem hj);rw [List.any_eq_false] at h1;refine h1 l[i] ?_ (fI.2 e);refine List.mem_of_getElem? (i := i) ?_;rw [List.getElem?_take, if_pos hij];exact List.getElem?_eq_getElem hi
 ·intro h j x hx;rw [List.any_eq_false];intro o ho hc;obtain ⟨i, hi⟩ := List.getElem?_of_mem ho;rw [List.getElem?_take] at hi;split at hi
  ·rename_i hij;have hj := (List.getElem?_eq_some_iff.1 hx).1;have hil := (List.getElem?_eq_some_iff.1 hi).1;have e1 : l[i] = o := (List.getElem?_eq_some_iff.1 hi).2;have e2 : l[j] = x := (List.getElem?_eq_some_iff.1 hx).2;have := h i j hil hj hij;rw [e1, e2] at this;exact this (fI.1 hc)
  ·cases hi
def oz (name : ByteArray) : List Class → Option Method
 | [] => none
 | d :: l => match d.methods.find? (fV name) with | some x => some x | none => oz name l
theorem qb {cs : List Class} (name : ByteArray) : ∀ l : List Class, (∀ d ∈ l, cs.find? (dB d.name) = some d) → (eB cs name (l.map (·.name))).map (·.1) = oz name l
 | [], _ => rfl
 | d :: l, h => by
   simp only [List.map_cons, eB, oz];rw [wW (h d (by simp))];cases d.methods.find? (fV name) with
   | some x => rfl
   | none => exact qb name l fun d hd => h d (List.mem_cons_of_mem _ hd)
structure Same0 (cs : List Class) : Prop where
 names : (cs.map (·.name)).Nodup
 sup : ∀ c ∈ cs, c.super.toList = [] ∨ (cs.find? (dB c.super)).isSome = true
 len : ∀ c ∈ cs, (bF cs (cs.length + 1) c.name).length ≤ cs.length
 fields : ∀ c ∈ cs, ((bF cs (cs.length + 1) c.name).flatMap fun d => dD d.fields).Nodup
 own : ∀ c ∈ cs, (c.methods.map (·.name)).Nodup
 params : ∀ c ∈ cs, ∀ m ∈ c.methods, (dD m.params).Nodup
def aaw (cs : List Class) : Prop := ∀ c ∈ cs, ∀ m ∈ c.methods, ∀ o, oz m.name ((bF cs (cs.length + 1) c.name).drop 1) = some o → gH m o = true
def VE (cs : List Class) : Prop := ∀ c ∈ cs, ∀ m ∈ c.methods, ∀ (i : Nat) d, (bF cs (cs.length + 1) c.name)[i]? = some d → nV m d.methods = true
theorem CK {cs : List Class} (h : (cs.map (·.name)).Nodup) {c : Class} (hc : c ∈ cs) : cs.find? (dB c.name) = some c := by
 obtain ⟨d, hd⟩ := C9 hc;rw [hd];obtain ⟨h1, h2⟩ := sG hd;obtain ⟨i, hi⟩ := List.getElem?_of_mem hc;obtain ⟨j, hj⟩ := List.getElem?_of_mem h2;have hi' := (List.getElem?_eq_some_iff.1 hi);have hj' := (List.getElem?_eq_some_iff.1 hj);rw [List.Nodup, List.pairwise_map, List.pairwise_iff_getElem] at h;rcases Nat.lt_trichotomy i j with hij | hij | hij
 ·exact absurd (by rw [hi'.2, hj'.2]; exact h1.symm) (h i j hi'.1 hj'.1 hij)
 ·subst hij; rw [hi] at hj; exact hj.symm
 ·exact absurd (by rw [hi'.2, hj'.2]; exact h1) (h j i hj'.1 hi'.1 hij)
theorem Ea {name : ByteArray} : ∀ {l : List Class} {o : Method}, oz name l = some o → ∃ (i : Nat) (d : Class), l[i]? = some d ∧ d.methods.find? (fV name) = some o ∧ ∀ j e, j < i → l[j]? = some e → e.methods.find? (fV name) = none
 | [], o, h => by cases h
 | d :: l, o, h => by
   simp only [oz] at h;cases hf : d.methods.find? (fV name) with
   | some x => rw [hf] at h; cases h; exact ⟨0, d, rfl, hf, fun j e hj => by omega⟩
   | none =>
     rw [hf] at h;obtain ⟨i, e, h1, h2, h3⟩ := Ea h;refine ⟨i + 1, e, by simpa using h1, h2, fun j f hj he => ?_⟩;cases j with
     | zero => simp at he; subst he; exact hf
     | succ j => exact h3 j f (by omega) Gn
theorem DL {name : ByteArray} : ∀ {l : List Class} {i : Nat} {d : Class} {o : Method}, l[i]? = some d → d.methods.find? (fV name) = some o → ∃ o', oz name l = some o'
 | [], i, d, o, h, _ => by simp at h
 | e :: l, 0, d, o, h, k => by simp at h; subst h; exact ⟨o, by simp [oz, k]⟩
 | e :: l, i + 1, d, o, h, k => by
   simp only [oz];cases e.methods.find? (fV name) with
   | some x => exact ⟨x, rfl⟩
   | none => exact DL (by simpa using h) k
theorem J8 {l : List Method} {name : ByteArray} {o : Method} (h : l.find? (fV name) = some o) : o ∈ l ∧ o.name = name := ⟨List.mem_of_find?_eq_some h, by have := List.find?_some h; exact fI.1 this⟩
theorem LU {l : List Method} (h : (l.map (·.name)).Nodup) {m : Method} (hm : m ∈ l) : l.find? (fV m.name) = some m := by
 cases hf : l.find? (fV m.name) with
 | none =>
   have := List.find?_eq_none.1 hf m hm;simp [fV] at this
 | some o =>
   obtain ⟨h1, h2⟩ := J8 hf;obtain ⟨i, hi⟩ := List.getElem?_of_mem hm;obtain ⟨j, hj⟩ := List.getElem?_of_mem h1;have hi' := (List.getElem?_eq_some_iff.1 hi);have hj' := (List.getElem?_eq_some_iff.1 hj);rw [List.Nodup, List.pairwise_map, List.pairwise_iff_getElem] at h;rcases Nat.lt_trichotomy i j with hij | hij | hij
   ·exact absurd (by rw [hi'.2, hj'.2]; exact h2.symm) (h i j hi'.1 hj'.1 hij)
   ·subst hij; rw [hi] at hj; exact hj.symm
   ·exact absurd (by rw [hi'.2, hj'.2]; exact h2) (h j i hj'.1 hi'.1 hij)
theorem vR {m : Method} {l : List Method} : nV m l = true ↔ ∀ o, l.find? (fV m.name) = some o → gH m o = true := by
 unfold nV;have e : oV m.name = fV m.name := rfl;rw [e];cases l.find? (fV m.name) with
 | none => simp
 | some o => simp
theorem AL {cs : List Class} (h0 : Same0 cs) : aaw cs ↔ VE cs := by
 constructor
 ·intro hR
  -- by how far above it stands
  have key : ∀ n, ∀ c ∈ cs, ∀ m ∈ c.methods, ∀ (i : Nat) d, i ≤ n → (bF cs (cs.length + 1) c.name)[i]? = some d → nV m d.methods = true := by
   intro n;induction n with
   | zero =>
     intro c hc m hm i d hi hd;obtain rfl : i = 0 := by omega
     have hf := CK h0.names hc;have : d = c := by
      have h1 : bF cs (cs.length + 1) c.name = c :: bF cs cs.length c.super := by
       conv => lhs; unfold bF
       rw [hf]
      rw [h1] at hd;simpa using hd.symm
     subst this;rw [vR];intro o ho;rw [LU (h0.own d hc) hm] at ho;cases ho
     exact alike_refl m
   | succ n ih =>
     intro c hc m hm i d hi hd;rcases Nat.lt_or_ge i (n + 1) with h1 | h1
     ·exact ih c hc m hm i d (by omega) hd
     ·obtain rfl : i = n + 1 := by omega
      rw [vR];intro o ho;have hd1 : ((bF cs (cs.length + 1) c.name).drop 1)[n]? = some d := by rw [List.getElem?_drop, Nat.add_comm 1 n]; exact hd
      obtain ⟨o', ho'⟩ := DL hd1 ho;have hlike := hR c hc m hm o' ho';obtain ⟨q, e, he, hf, hbefore⟩ := Ea ho';rw [List.getElem?_drop] at he;rcases Nat.lt_trichotomy q n with hq | hq | hq
      ·-- the next one stands below: from there on
       obtain ⟨hem, hef⟩ := iq cs _ _ e (List.mem_of_getElem? he)
       obtain ⟨ho1, ho2⟩ := J8 hf
       have hdr := yw cs (cs.length + 1) (1 + q) c.name e he
       have hlen := h0.len c hc
       have hmore : bF cs (cs.length + 1) e.name = (bF cs (cs.length + 1) c.name).drop (1 + q) := by
        rw [hdr];have hl : (bF cs (cs.length + 1 - (1 + q)) e.name).length < cs.length + 1 - (1 + q) := by
         rw [← hdr, List.length_drop];have := (List.getElem?_eq_some_iff.1 he).1;omega
        have := yN cs (cs.length + 1 - (1 + q)) (1 + q) e.name hl;rw [show cs.length + 1 - (1 + q) + (1 + q) = cs.length + 1 by have := (List.getElem?_eq_some_iff.1 he).1; omega] at this;exact this
       have hd2 : (bF cs (cs.length + 1) e.name)[n + 1 - (1 + q)]? = some d := by
        rw [hmore, List.getElem?_drop];rw [show 1 + q + (n + 1 - (1 + q)) = n + 1 by omega];exact hd
       have := ih e hem o' ho1 (n + 1 - (1 + q)) d (by omega) hd2
       rw [vR, ho2] at this
       exact Gy hlike (this o ho)
      ·subst hq;rw [Nat.add_comm 1 q] at he;rw [hd] at he;cases he
       rw [hf] at ho;cases ho
       exact hlike
      ·have := hbefore n d hq hd1;rw [this] at ho;cases ho
  exact fun c hc m hm i d hd => key i c hc m hm i d (Nat.le_refl _) hd
 ·intro hP c hc m hm o ho;obtain ⟨i, d, h1, h2, -⟩ := Ea ho;rw [List.getElem?_drop] at h1;have := hP c hc m hm _ d h1;rw [vR] at this;exact this o h2
theorem LD {cs : List Class} : mM cs = true ↔ (cs.map (·.name)).Nodup ∧ ∀ c ∈ cs, c.super.toList = [] ∨ (cs.find? (dB c.super)).isSome = true := by
 rw [← zL];unfold mM;rw [List.all_eq_true];have row : ∀ i c, cs[i]? = some c → (mF cs i = true ↔ ((cs.take i).any fun o => o.name.toList == c.name.toList) = false ∧ (c.super.toList = [] ∨ (cs.find? (dB c.super)).isSome = true)) := by
  intro i c hc;have e : ((cs.take i).any fun d => c.name.toList == d.name.toList) = ((cs.take i).any fun o => o.name.toList == c.name.toList) := by
   congr 1; funext d; exact BEq.comm
  unfold mF;rw [hc];dsimp only;rw [e];simp only [Bool.and_eq_true, Bool.not_eq_true', Bool.or_eq_true, beq_iff_eq]
 constructor
 ·intro h;refine ⟨fun i c hc => ((row i c hc).1 (h i (List.mem_range.2 (List.getElem?_eq_some_iff.1 hc).1))).1, fun c hm => ?_⟩;obtain ⟨i, hc⟩ := List.getElem?_of_mem hm;exact ((row i c hc).1 (h i (List.mem_range.2 (List.getElem?_eq_some_iff.1 hc).1))).2
 ·rintro ⟨h1, h2⟩ i hi;have hc := List.getElem?_eq_getElem (List.mem_range.1 hi);exact (row i _ hc).2 ⟨h1 i _ hc, h2 _ (List.mem_of_getElem? hc)⟩
theorem El {cs : List Class} (l : List Class) (h : ∀ d ∈ l, cs.find? (dB d.name) = some d) : (dD (dh cs (l.map (·.name)))).Nodup ↔ (l.flatMap fun d => dD d.fields).Nodup := by
 have e : dD (dh cs (l.map (·.name))) = l.reverse.flatMap fun d => dD d.fields := by
  unfold dh dD;rw [← List.map_reverse, List.map_flatMap, List.flatMap_map];have : ∀ l' : List Class, (∀ d ∈ l', d ∈ l) → (l'.flatMap fun d => ((dX cs d.name).fields.map (·.name))) = l'.flatMap fun d => d.fields.map (·.name) := by
   intro l';induction l' with
   | nil => intro _; rfl
   | cons d l' ih =>
     intro hm;rw [List.flatMap_cons, List.flatMap_cons, ih fun x hx => hm x (List.mem_cons_of_mem _ hx), wW (h d (hm d (by simp)))]
  exact this _ fun d hd => List.mem_reverse.1 hd
 rw [e];exact (List.Perm.flatMap_right _ (List.reverse_perm l)).nodup_iff
theorem Gj {cs : List Class} (k : Nat) (name : ByteArray) (j : Nat) (l : List Method) : jm cs ((gN cs k name).drop j) l = true ↔ (l.map (·.name)).Nodup ∧ ∀ m ∈ l, (dD m.params).Nodup ∧ ∀ o, oz m.name ((bF cs k name).drop j) = some o → gH m o = true := by
 rw [← zL, iJ, ← List.map_drop];have hmem : ∀ d ∈ (bF cs k name).drop j, cs.find? (dB d.name) = some d := fun d hd => (iq cs k name d (List.mem_of_mem_drop hd)).2
 generalize (bF cs k name).drop j = ab at hmem ⊢;unfold jm;rw [List.all_eq_true];have row : ∀ i x, l[i]? = some x → (kX cs (ab.map (·.name)) l i = true ↔ ((l.take i).any fun o => o.name.toList == x.name.toList) = false ∧ (dD x.params).Nodup ∧ ∀ o, oz x.name ab = some o → gH x o = true) := by
  intro i x hx;have hn := qb x.name ab hmem;unfold kX;rw [hx];dsimp only;rw [← xZ];cases hm : eB cs x.name (ab.map (·.name)) with
  | none =>
    rw [hm] at hn;rw [← hn];simp
  | some q =>
    rw [hm] at hn;rw [← hn];obtain ⟨o, n⟩ := q;simp only [Option.map_some, Bool.and_eq_true, Bool.not_eq_true', Bool.or_eq_false_iff, Option.some.injEq, forall_eq', Bool.not_eq_false', FN];constructor
    ·rintro ⟨a, b, c⟩; exact ⟨a, c, b⟩
    ·rintro ⟨a, b, c⟩; exact ⟨a, c, b⟩
 constructor
 ·intro h;refine ⟨fun i x hx => ((row i x hx).1 (h i (List.mem_range.2 (List.getElem?_eq_some_iff.1 hx).1))).1, fun x hm => ?_⟩;obtain ⟨i, hx⟩ := List.getElem?_of_mem hm;exact ((row i x hx).1 (h i (List.mem_range.2 (List.getElem?_eq_some_iff.1 hx).1))).2
 ·rintro ⟨h1, h2⟩ i hi;have hx := List.getElem?_eq_getElem (List.mem_range.1 hi);exact (row i _ hx).2 ⟨h1 i _ hx, h2 _ (List.mem_of_getElem? hx)⟩
theorem Sz {cs : List Class} : (mM cs = true ∧ (List.range cs.length).all (jy cs) = true) ↔ Same0 cs ∧ aaw cs := by
 rw [LD, List.all_eq_true];have row : ∀ i c, cs[i]? = some c → (jy cs i = true ↔ (bF cs (cs.length + 1) c.name).length ≤ cs.length ∧ ((bF cs (cs.length + 1) c.name).flatMap fun d => dD d.fields).Nodup ∧ (c.methods.map (·.name)).Nodup ∧ ∀ m ∈ c.methods, (dD m.params).Nodup ∧ ∀ o, oz m.name ((bF cs (cs.length + 1) c.name).drop 1) = some o → gH m o = true) := by
  intro i c hc;unfold jy;rw [hc];dsimp only;rw [Bool.and_eq_true, Gj, Bool.not_eq_true', Bool.or_eq_false_iff, xZ, iJ, List.length_map, decide_eq_false_iff_not, Nat.not_lt,
   El _ (fun d hd => (iq cs _ _ d hd).2), and_assoc]
 constructor
 ·rintro ⟨⟨h1, h2⟩, h3⟩;have R := fun c (hm : c ∈ cs) => (List.getElem?_of_mem hm).elim fun i hc => (row i c hc).1 (h3 i (List.mem_range.2 (List.getElem?_eq_some_iff.1 hc).1))
  exact ⟨⟨h1, h2, fun c hc => (R c hc).1, fun c hc => (R c hc).2.1, fun c hc => (R c hc).2.2.1, fun c hc m hm => ((R c hc).2.2.2 m hm).1⟩, fun c hc m hm => ((R c hc).2.2.2 m hm).2⟩
 ·rintro ⟨h, hR⟩;refine ⟨⟨h.names, h.sup⟩, fun i hi => ?_⟩;have hx := List.getElem?_eq_getElem (List.mem_range.1 hi);have hm := List.mem_of_getElem? hx;exact (row i _ hx).2 ⟨h.len _ hm, h.fields _ hm, h.own _ hm, fun m hmm => ⟨h.params _ hm m hmm, hR _ hm m hmm⟩⟩
theorem Gd {cs : List Class} {c : Class} (h : cs.find? (dB c.name) = some c) (k : Nat) : bF cs (k + 1) c.name = c :: bF cs k c.super := by
 conv => lhs; unfold bF
 rw [h]
theorem Lc {cs : List Class} {n : ByteArray} : cs.any (ji n) = true ↔ (cs.find? (dB n)).isSome = true := by
 rw [uG, List.find?_isSome, List.any_eq_true]
theorem zl {cs : List Class} {c d : Class} {m : Nat} : Cg cs c m d = true ↔ m ≠ cs.length ∧ (d.super.toList = [] ∨ (cs.find? (dB d.super)).isSome = true) ∧ ∀ y ∈ c.methods, nV y d.methods = true := by
 unfold Cg;rw [Bool.and_eq_true, Bool.and_eq_true, Bool.or_eq_true, Lc, List.all_eq_true, List.isEmpty_iff, Bool.not_eq_true', decide_eq_false_iff_not, and_assoc]
theorem Gc {cs : List Class} : (jT (cs.map (·.name)) = true ∧ ∀ c ∈ cs, dQ cs c = true) ↔ Same0 cs ∧ VE cs := by
 have row : ∀ c, dQ cs c = true ↔ (∀ i d, (bF cs (cs.length + 1) c.name)[i]? = some d → Cg cs c (0 + i) d = true) ∧ (∀ m ∈ c.methods, (dD m.params).Nodup) ∧ ((bF cs (cs.length + 1) c.name).flatMap fun d => dD d.fields).Nodup ∧ (c.methods.map (·.name)).Nodup := by
  intro c;unfold dQ;rw [Bool.and_eq_true, Bool.and_eq_true, Bool.and_eq_true, RH, List.all_eq_true, Bg, sj, sj, and_assoc, and_assoc];simp only [sj]
 rw [sj];constructor
 ·rintro ⟨h1, h2⟩;have R := fun c hc => (row c).1 (h2 c hc)
  refine ⟨⟨h1, fun c hc => ?_, fun c hc => ?_, fun c hc => (R c hc).2.2.1, fun c hc => (R c hc).2.2.2, fun c hc => (R c hc).2.1⟩, fun c hc m hm i d hd => ?_⟩
  ·have hf := CK h1 hc;have : (bF cs (cs.length + 1) c.name)[0]? = some c := by rw [Gd hf]; rfl
   exact (zl.1 ((R c hc).1 0 c this)).2.1
  ·rcases Nat.lt_or_ge cs.length (bF cs (cs.length + 1) c.name).length with hl | hl
   ·have := (zl.1 ((R c hc).1 cs.length _ (List.getElem?_eq_getElem hl))).1;rw [Nat.zero_add] at this;exact absurd rfl this
   ·exact hl
  ·exact (zl.1 ((R c hc).1 i d hd)).2.2 m hm
 ·rintro ⟨h, hP⟩;refine ⟨h.names, fun c hc => (row c).2 ⟨fun i d hd => ?_, h.params c hc, h.fields c hc, h.own c hc⟩⟩;refine zl.2 ⟨?_, h.sup d (iq cs _ _ d (List.mem_of_getElem? hd)).1, fun y hy => hP c hc y hy i d hd⟩;have := (List.getElem?_eq_some_iff.1 hd).1;have := h.len c hc;omega
theorem Xj (e : Int) (cs : List Class) : eO e cs = qj e cs := by
 have key : (jT (cs.map (·.name)) = true ∧ ∀ c ∈ cs, dQ cs c = true) ↔ (mM cs = true ∧ (List.range cs.length).all (jy cs) = true) := by
  rw [Sz, Gc];exact ⟨fun h => ⟨h.1, (AL h.1).2 h.2⟩, fun h => ⟨h.1, (AL h.1).1 h.2⟩⟩
 have ha : (cs.any (fun c => !dQ cs c) = true) ↔ ¬ ∀ c ∈ cs, dQ cs c = true := by
  rw [← List.all_eq_true, List.any_eq_not_all_not];simp
 unfold eO qj;split
 ·split
  ·rfl
  ·by_cases h1 : jT (cs.map (·.name)) = true
   ·rw [if_neg (by rw [h1]; decide)];by_cases h2 : ∀ c ∈ cs, dQ cs c = true
    ·rw [if_neg (fun h => ha.1 h h2)];obtain ⟨k1, k2⟩ := key.1 ⟨h1, h2⟩;rw [if_neg (by rw [k1]; decide), if_pos k2]
    ·rw [if_pos (ha.2 h2)];split
     ·rfl
     ·rename_i k1;rw [if_neg (fun k2 => h2 (key.2 ⟨by simpa using k1, k2⟩).2)]
   ·rw [if_pos DJ];split
    ·rfl
    ·rename_i k1;rw [if_neg (fun k2 => h1 (key.2 ⟨by simpa using k1, k2⟩).1)]
 ·rfl
theorem FB (E : Int) (cs : List Class) (n : ByteArray) : pY E cs n = bq E cs n := by
 unfold pY bq;rw [Cb, iJ]
theorem GK {e : Int} {cs : List Class} (h : eO e cs = 0) : Same0 cs := by
 unfold eO at h;split at h
 ·split at h
  ·exact absurd h (by decide)
  ·split at h
   ·exact absurd h (by decide)
   ·split at h
    ·exact absurd h (by decide)
    ·rename_i h1 h2;refine (Gc.1 ⟨by simpa using h1, fun c hc => ?_⟩).1;cases hk : dQ cs c with
     | true => rfl
     | false => exact absurd (List.any_eq_true.2 ⟨c, hc, by rw [hk]; rfl⟩) h2
 ·rename_i h1; exact absurd h h1
end V
end Go.Proofs.YtgaipdillmleeaaGreat
end
section
namespace Go.Proofs.YtgaipdillmleeaaGreat
namespace V
open Go.RowKit
def oh (p : Program) : Int := bG (bK p)
theorem WV (p : Program) (hS : fu p.classes) (hlen : p.classes.length ≤ 1048576) (m : Mem) : COk Tryz.prog 16 [.agg (bI p)] m (.c (.int .i64 (eO (oh p) p.classes))) :=
 MG p (oh p) hS (by omega) (fun m => Sr p m) m
theorem Lf (p : Program) (hS : fu p.classes) (hlen : p.classes.length ≤ 1048576) (m : Mem) : COk Tryz.prog 21 [.agg (bI p)] m (.c (.int .i64 (eO (oh p) p.classes))) := by
 rw [Xj];exact FM p (oh p) (zW _) hS (by omega) (fun m => G9 p m) m
end V
end Go.Proofs.YtgaipdillmleeaaGreat
end
section
namespace Go.Proofs.YtgaipdillmleeaaGreat
namespace V
theorem IZ {cs : List Class} {a b : ByteArray} : pq 0 cs a b = true ↔ ∃ (i : Nat) (d : Class), (bF cs (cs.length + 1) a)[i]? = some d ∧ d.name = b := by
 unfold pq;rw [FB];unfold bq;rw [if_pos rfl, iJ, List.any_map, List.any_eq_true];constructor
 ·rintro ⟨d, hd, h⟩;obtain ⟨i, hi⟩ := List.getElem?_of_mem hd;exact ⟨i, d, hi, (fI.1 h).symm⟩
 ·rintro ⟨i, d, hi, rfl⟩;exact ⟨d, List.mem_of_getElem? hi, fI.2 rfl⟩
end V
end Go.Proofs.YtgaipdillmleeaaGreat
end
section
namespace Go.Proofs.YtgaipdillmleeaaGreat
namespace V
open Go.RowKit
abbrev bO : ByteArray := ⟨#[105, 110, 116]⟩
abbrev gZ : ByteArray := ⟨#[105, 110, 116, 91, 93]⟩
abbrev iG : ByteArray := ⟨#[110, 117, 108, 108]⟩
def lF (t : ByteArray) (d : Class) : Bool := d.name.toList == t.toList
def bJ (cs : List Class) (t : ByteArray) : Bool := t.toList == bO.toList || (t.toList == gZ.toList || cs.any (lF t))
def mY (E : Int) (cs : List Class) (a b : ByteArray) : Bool :=
 bJ cs b && (a.toList == b.toList || (if (a.toList == iG.toList) = true then !(b.toList == bO.toList) else cs.any (lF a) && pq E cs a b))
def qQ (E : Int) (cs : List Class) (a b : ByteArray) : Bool :=
 bJ cs b && (a.toList == b.toList || (a.toList == iG.toList && !(b.toList == bO.toList)) || (cs.any (lF a) && cs.any (lF b) && (bq E cs a).any (fun x => x.toList == b.toList)))
theorem R4 (d : Class) (t : ByteArray) (m : Mem) : COk Tryz.prog 72 [.agg (au d), .rptr [.str t]] m (.c (.bool (lF t d))) := by
 refine (aS ah Tryz.func72 (by kernel_rfl) rfl rfl (by rfl) (by rfl) (by rfl) (fun R hkeep => ?_) m);refine OJ ?_;refine W.rt ?_;simp only [Tryz.f72, aU, ay, toT, fin, exb, simprocAttr, au] <;> rfl
theorem uV (cs : List Class) (r : List C) (t : ByteArray) (hlen : cs.length ≤ 1000000000) (m : Mem) : COk Tryz.prog 38 [.rptr (.sl (cs.map au) :: r), .c (.str t)] m (.c (.bool (cs.any (lF t)))) := by
 refine (aS ah Tryz.func38 (by kernel_rfl) rfl rfl (by rfl) (by rfl) (by rfl) (fun R hkeep => ?_) m);refine W.go ?_;refine zm1 ?_;refine xs0 6 ?_;refine fJ rfl rfl rfl rfl rfl (by simp) (bM fO (bM (Ar (qB rfl rfl)) gJ)) (by rfl) (by rfl) (qN cs 72 [[.str t]] (lF t) (by omega) (fun x _ m => R4 x t m)) ?_;refine xe0 ?_;refine W.rt ?_;simp only [Tryz.f38, aU, ay, toT, fin, exb, simprocAttr]
theorem qZ (cs : List Class) (r : List C) (t : ByteArray) (hlen : cs.length ≤ 1000000000) (m : Mem) : COk Tryz.prog 20 [.rptr (.sl (cs.map au) :: r), .c (.str t)] m (.c (.bool (bJ cs t))) := by
 have hk := uV cs r t hlen;unfold bJ;refine (aS ah Tryz.func20 (by kernel_rfl) rfl rfl (by rfl) (by rfl) (by rfl) (fun R hkeep => ?_) m);refine W.go ?_;cases h1 : (t.toList == bO.toList) with
 | true =>
   refine zm1 ?_;refine aA JF ?_;refine W.rt ?_;simp only [Tryz.f20, aU, ay, toT, fin, exb, simprocAttr, h1] <;> rfl
 | false =>
   cases h2 : (t.toList == gZ.toList) with
   | true =>
     refine zm1 ?_;refine aA Cm ?_;refine W.rt ?_;simp only [Tryz.f20, aU, ay, toT, fin, exb, simprocAttr, h1, h2] <;> rfl
   | false =>
     refine zm1 ?_;refine Sl ?_;refine W.rt ?_;simp only [Tryz.f20, aU, ay, toT, fin, exb, simprocAttr] <;> rfl
theorem nU (cs : List Class) (mn : C) (t : ByteArray) (hlen : cs.length ≤ 1000000000) (m : Mem) : COk Tryz.prog 47 [.agg [.sl (cs.map au), mn], .c (.str t)] m (.c (.bool (cs.any (lF t)))) := by
 refine (aS ah Tryz.func47 (by kernel_rfl) rfl rfl (by rfl) (by rfl) (by rfl) (fun R hkeep => ?_) m);refine W.go ?_;refine W.loop (ι := Nat) (fun k => ⟨upd (upd (upd (upd (fun _ => .top) 1 (.c (.str t))) 8 (.c (.sl (cs.map au)))) 9 (.c (.int .i64 cs.length))) 10 (.c (.int .i64 k)), Mem.nil⟩) (fun k => k ≤ cs.length ∧ (cs.take k).any (lF t) = false) (fun k => cs.length - k) 0 ?start ⟨Nat.zero_le _, rfl⟩ ?round
 case start =>
  exact Ae
 case round =>
  rintro k ⟨hk, hall⟩;refine W.go ?_;refine W.cond rfl ?_ ?_
  ·intro hlt;replace hlt := dtl hlt;obtain ⟨x, hx⟩ : ∃ x, cs[k]? = some x := ⟨_, List.getElem?_eq_getElem hlt⟩;have hs : (cs.take (k + 1)).any (lF t) = lF t x := by
    rw [List.take_add_one, hx, List.any_append, hall]; simp
   repeat (first | refine W.q ?_ | refine W.g ?_ JQ)
   refine W.cond rfl ?_ ?_
   ·intro heq;refine zm6 ?_;simp only [Tryz.f47, aU, ay, toT, fin, exb, simprocAttr];rw [show cs.any (lF t) = true from List.any_eq_true.2 ⟨x, List.mem_of_getElem? hx, heq⟩]
   ·intro hne;refine W.go ?_;refine ⟨k + 1, ⟨hlt, by rw [hs]; exact hne⟩, by omega, ?_⟩;exact O9
  ·intro hge;replace hge := dnl hge;obtain rfl : k = cs.length := by omega
   rw [List.take_length] at hall;refine zm6 ?_;simp only [Tryz.f47, aU, ay, toT, fin, exb, simprocAttr];rw [hall]
theorem lg (cs : List Class) (mn : C) (t : ByteArray) (hlen : cs.length ≤ 1000000000) (m : Mem) : COk Tryz.prog 23 [.agg [.sl (cs.map au), mn], .c (.str t)] m (.c (.bool (bJ cs t))) := by
 have hk := nU cs mn t hlen;unfold bJ;refine (aS ah Tryz.func23 (by kernel_rfl) rfl rfl (by rfl) (by rfl) (by rfl) (fun R hkeep => ?_) m);refine W.go ?_;cases h1 : (t.toList == bO.toList) with
 | true =>
   refine zm1 ?_;refine aA JF ?_;refine W.rt ?_;simp only [Tryz.f23, aU, ay, toT, fin, exb, simprocAttr, h1] <;> rfl
 | false =>
   cases h2 : (t.toList == gZ.toList) with
   | true =>
     refine zm1 ?_;refine aA Cm ?_;refine W.rt ?_;simp only [Tryz.f23, aU, ay, toT, fin, exb, simprocAttr, h1, h2] <;> rfl
   | false =>
     refine zm1 ?_;refine Sl ?_;refine W.rt ?_;simp only [Tryz.f23, aU, ay, toT, fin, exb, simprocAttr] <;> rfl
theorem zB (p : Program) (E : Int) (r : List C) (a b : ByteArray) (hlen : p.classes.length ≤ 1000000000) (hchk : ∀ m, COk Tryz.prog 16 [.agg (bI p)] m (.c (.int .i64 E))) (m : Mem) :
 COk Tryz.prog 71 [.rptr (.sl (p.classes.map au) :: .sl (aO p.main) :: r), .c (.str a), .c (.str b)] m (.c (.bool (mY E p.classes a b))) := by
 have hkn := qZ p.classes (.sl (aO p.main) :: r) b hlen
 have hcl := uV p.classes (.sl (aO p.main) :: r) a hlen
 have hbe := fun m => P6 p E a b (by omega) hchk m
 unfold mY
 generalize bJ p.classes b = K at hkn
 generalize p.classes.any (lF a) = L at hcl
 generalize pq E p.classes a b = B at hbe
 refine (aS ah Tryz.func71 (by kernel_rfl) rfl rfl (by rfl) (by rfl) (by rfl) (fun R hkeep => ?_) m)
 refine W.go ?_
 refine W.bR ah 0 (by decide) ?_
 refine xs0 2 ?_
 refine av rfl rfl rfl rfl rfl (by simp) cw2 (hkn _) ?_
 refine xe0 ?_
 refine W.cond rfl ?_ ?_
 ·intro h
  obtain rfl : K = false := by simpa using h
  refine W.go ?_
  refine W.rt ?_;simp only [Tryz.f71, aU, ay, toT, fin, exb, simprocAttr] <;> rfl
 intro h
 obtain rfl : K = true := by simpa using h
 refine W.go ?_
 refine W.cond rfl ?_ ?_
 ·intro h
  have h : (a.toList == b.toList) = true := h
  refine W.go ?_
  refine W.rt ?_;simp only [Tryz.f71, aU, ay, toT, fin, exb, simprocAttr, h] <;> rfl
 intro h1
 have h1 : (a.toList == b.toList) = false := h1
 refine W.go ?_
 refine W.cond rfl ?_ ?_
 ·intro h
  have h : (a.toList == iG.toList) = true := h
  refine W.go ?_
  refine W.rt ?_;simp only [Tryz.f71, aU, ay, toT, fin, exb, simprocAttr, h, h1] <;> rfl
 intro h2
 have h2 : (a.toList == iG.toList) = false := h2
 refine W.go ?_
 cases L with
 | false =>
   refine zm1 ?_;refine xs0 2 ?_;refine O7 ?_;exact OY
 | true =>
   refine zm1 ?_;refine xs0 2 ?_;refine O7 ?_;refine aj 7 jJ ?_;refine av rfl rfl rfl rfl rfl (by simp) cw3 (hbe _) ?_;exact OY
theorem kN (p : Program) (E : Int) (a b : ByteArray) (hlen : p.classes.length ≤ 1000000000) (hchk : ∀ m, COk Tryz.prog 21 [.agg (bI p)] m (.c (.int .i64 E))) (m : Mem) :
 COk Tryz.prog 130 [.agg (bI p), .c (.str a), .c (.str b)] m (.c (.bool (qQ E p.classes a b))) := by
 have hkn := lg p.classes (.sl (aO p.main)) b hlen
 have hca := nU p.classes (.sl (aO p.main)) a hlen
 have hcb := nU p.classes (.sl (aO p.main)) b hlen
 have hbe := fun m => Gg p E a b (by omega) hchk m
 unfold qQ
 generalize bJ p.classes b = K at hkn
 generalize p.classes.any (lF a) = La at hca
 generalize p.classes.any (lF b) = Lb at hcb
 generalize ((bq E p.classes a).any (fun x => x.toList == b.toList)) = B at hbe
 have hcp : bI p = [.sl (p.classes.map au), .sl (aO p.main)] := rfl
 refine (aS ah Tryz.func130 (by kernel_rfl) rfl rfl (by rfl) (by rfl) (by rfl) (fun R hkeep => ?_) m)
 repeat (first | refine W.q ?_ | refine W.g ?_ gB)
 refine W.bR ah 0 (by decide) ?_
 cases K with
 | false =>
   refine aj 2 gB ?_;refine Sb ?_;refine xe0 ?_;refine W.rt ?_;simp only [Tryz.f130, aU, ay, toT, fin, exb, simprocAttr] <;> rfl
 | true =>
   refine aj 2 gB ?_;refine Sb ?_;cases h1 : (a.toList == b.toList) with
   | true =>
     refine aA JF ?_;refine W.rt ?_;simp only [Tryz.f130, aU, ay, toT, fin, exb, simprocAttr, h1] <;> rfl
   | false =>
     cases h2 : (a.toList == iG.toList && !(b.toList == bO.toList)) with
     | true =>
       rw [Bool.and_eq_true] at h2;have h3 : (b.toList == bO.toList) = false := by simpa using h2.2
       have h2 := h2.1;refine aA Wh ?_;refine W.rt ?_;simp only [Tryz.f130, aU, ay, toT, fin, exb, simprocAttr, h1, h2, h3] <;> rfl
     | false =>
       cases La with
       | false =>
         cases h3 : (a.toList == iG.toList) with
         | true =>
           have h4 : (b.toList == bO.toList) = true := by rw [h3] at h2; simpa using h2
           refine aj 15 Nu ?_;refine av rfl rfl rfl rfl rfl (by simp) cw2 (hca _) ?_;exact TD
         | false =>
           refine aj 15 Ni ?_;refine av rfl rfl rfl rfl rfl (by simp) cw2 (hca _) ?_;exact Ws
       | true =>
         cases Lb with
         | false =>
           cases h3 : (a.toList == iG.toList) with
           | true =>
             have h4 : (b.toList == bO.toList) = true := by rw [h3] at h2; simpa using h2
             refine aj 15 Nu ?_;refine QV ?_;exact TD
           | false =>
             refine aj 15 Ni ?_;refine QV ?_;exact Ws
         | true =>
           cases h3 : (a.toList == iG.toList) with
           | true =>
             have h4 : (b.toList == bO.toList) = true := by rw [h3] at h2; simpa using h2
             refine aj 15 Nu ?_;refine QV ?_;refine aa0 ?_;exact TD
           | false =>
             refine aj 15 Ni ?_;refine QV ?_;refine aa0 ?_;exact Ws
end V
end Go.Proofs.YtgaipdillmleeaaGreat
end
section
namespace Go.Proofs.YtgaipdillmleeaaGreat
open Go.Shelf Go.RowKit Go.Lib
theorem Aa : ∃ i z, Tryz.prog.info? 46 = some i ∧ i.zero = some z ∧ i.size = 2 ∧ i.bytes = 32 ∧ z.cells.size = 2 := by
 obtain ⟨i, z, h1, h2, h3, -⟩ := V.ah.zero 46 _ rfl;obtain ⟨-, ⟨i', h4, h5⟩, -⟩ := V.ah.ty 46 _ _ rfl;obtain ⟨i2, h6, h7⟩ := V.ah.bytes 46 _ rfl;exact VH
set_option maxHeartbeats 4000000 in
set_option maxRecDepth 100000 in
theorem Qh (n : Nat) (h0 : 0 < n) (hn : n ≤ 1000000000000) (w : World) (i : TypeInfo) (z : Value) (hi : Tryz.prog.info? 46 = some i) (hz : i.zero = some z) (hs : i.size = 2) (hb : i.bytes = 32) :
 Calls Tryz.prog 166 #[.slice none 0 0, .int .i64 n] w fun e w' =>
  e = .returned (.slice (some ⟨w.heap.size, 0, none⟩) 0 (grownCap w n 0 46)) ∧
  w' = w.drew.alloc (.cells (#[] ++ Builtin.zeroCells z.cells n ++ Builtin.zeroCells z.cells (grownCap w n 0 46 - n)) 46) := by
 have h1 : ¬ ((n : Int) < 0) := by omega
 have h2 : wrap64 ((n : Int) - 0) = (n : Int) := by unfold wrap64; omega
 have h4 : (n : Int) > 0 := by omega
 have hold : (Builtin.firstCells i.size 0 (.slice none 0 0)).run Tryz.prog w.drew = .ok (([] : List Value).toArray) w.drew := run_firstCells_none w.drew i.size 0 0 0
 have hrz : ∀ ty, (Builtin.append_ #[39, 3] ty #[.slice none 0 0, .int .i64 (n : Int)]).run Tryz.prog w =
  .ok (.slice (some ⟨w.heap.size, 0, none⟩) n (grownCap w n 0 46)) (w.drew.alloc (.cells (#[] ++ Builtin.zeroCells z.cells n ++ Builtin.zeroCells z.cells (grownCap w n 0 46 - n)) 46)) := fun ty => by
  have h := Lib.run_append_grow_zeros w 39 3 ty 46 i z .i64 .i64 Tryz.underlying39 Tryz.underlying3 hi hz none 0 0 [] hold n (by omega) (by omega) (by omega) (by omega)
   (by rw [hb]; omega)
   Tc
  rw [Nat.zero_add] at h
  exact h
 have hGn : n ≤ grownCap w n 0 46 := grownCap_ge w _ _ _
 obtain ⟨G, hG⟩ : ∃ G, G = grownCap w n 0 46 := ⟨_, rfl⟩
 rw [← hG] at hrz hGn ⊢
 clear hold hG
 go_enter Tryz.func166, Tryz.ntmps166
 go_wp2_with (at_builtin; refine Lib.wpList_append_run _ rfl _ _ _ _ rfl _ _ rfl rfl _ _ (hrz _) ?_)
 all_goals (go_ret; exact ⟨rfl, rfl⟩)
set_option maxHeartbeats 1000000 in
theorem K6 (w : World) :
 Calls Tryz.prog 166 #[.slice none 0 0, .int .i64 0] w fun e w' => e = .returned (.slice none 0 0) ∧ w' = w := by
 go_enter Tryz.func166, Tryz.ntmps166
 go_wp2
 all_goals (go_ret; exact ⟨rfl, rfl⟩)
namespace V
theorem Sv (n : Nat) (hn : n ≤ 1000000000000) (M : Mem) (id : Nat) (hid : M id = none) : dJ Tryz.prog 166 [.nil, .c (.int .i64 n)] M [] (.own id) (upd M id (some (.arr 46 2 []))) := by
 have hne : ∀ j, (M j).isSome = true → j ≠ id := fun j hj e => by subst e; rw [hid] at hj; cases hj
 have liv : ∀ j, (M j).isSome = true → (upd M id (some (.arr 46 2 [])) j).isSome = true := fun j hj => by rw [upd_ne _ _ (hne j hj)]; exact hj
 refine ⟨enters_of Tryz.func166 (by kernel_rfl) rfl, fun j hj => ?_, liv, fun hw i o ho j hj => ?_, ?_⟩
 ·exact TQ
 ·exact UZ
 ·intro w0 I0 B I w vals hm hv;match vals, hv with
  | [v0, v1], ⟨h0, h1, _⟩ =>
    obtain rfl : v0 = .slice none 0 0 := h0;have h1 : RC w I v1 (.int .i64 n) := h1;obtain rfl := h1.toInt.1;rcases Nat.eq_zero_or_pos n with rfl | hpos
    ·refine (K6 w).mono ?_;exact Zj
    ·obtain ⟨i, z, hi, hz, hs, hb, hzs⟩ := Aa;refine (Qh n hpos hn w i z hi hz hs hb).mono ?_;rintro e w' ⟨rfl, rfl⟩;have hE : Ext w w.drew I I := ⟨fun _ _ k => k, fun _ _ _ => rfl⟩;have hmd := hm.call (Below.refl _ _).drew;have hge : n ≤ grownCap w n 0 46 := grownCap_ge w _ _ _;have hle : grownCap w n 0 46 ≤ maxLen := grownCap_le_maxLen w n 0 _ Nl;generalize grownCap w n 0 46 = G at hge hle ⊢;have hrow : (#[] ++ Builtin.zeroCells z.cells n ++ Builtin.zeroCells z.cells (G - n)).size = G * 2 := by
      exact SV
     exact YS
end V
end Go.Proofs.YtgaipdillmleeaaGreat
end
section
namespace Go.Proofs.YtgaipdillmleeaaGreat
namespace V
open Go.RowKit
def vU : Tab := { tab with eff := fun f => f == 64 || f == 166 }
namespace E
theorem ah : vU.Ok Tryz.prog := ⟨V.ah.ty, V.ah.zero, V.ah.elem, V.ah.off, V.ah.bool, V.ah.fields, V.ah.bytes, V.ah.nilk, V.ah.int, V.ah.map, V.ah.str, V.ah.one, V.ah.seq⟩
theorem tabs : vU.ty = tab.ty ∧ vU.zero = tab.zero ∧ vU.elem = tab.elem ∧ vU.off = tab.off ∧ vU.bool = tab.bool ∧ vU.fields = tab.fields ∧ vU.bytes = tab.bytes ∧ vU.nilk = tab.nilk ∧ vU.int = tab.int ∧ vU.map = tab.map ∧ vU.str = tab.str ∧ vU.one = tab.one ∧ vU.seq = tab.seq := ⟨rfl, rfl, rfl, rfl, rfl, rfl, rfl, rfl, rfl, rfl, rfl, rfl, rfl⟩
def nO (l : List Slot) : List C := [.sl (l.map aJ)]
theorem l8 {α : Type} (ps : List (List α)) {k : Nat} {l : List α} (h : ps[k]? = some l) : (ps.take (k + 1)).flatten = (ps.take k).flatten ++ l := by
 rw [List.take_add_one, h]; simp
theorem vZ {α : Type} (ps : List (List α)) (k : Nat) : (ps.take k).flatten.length ≤ ps.flatten.length := by
 exact ZJ
set_option maxHeartbeats 2000000 in
theorem xg (ps : List (List Slot)) (hps : ps.length ≤ 1000000000000) (hn : ps.flatten.length ≤ 1000000000000) (m : Mem) : COk Tryz.prog 148 [.c (.sl (ps.map nO))] m (.c (.sl (ps.flatten.map aJ))) := by
 refine (aS ah Tryz.func148 (by kernel_rfl) rfl rfl (by rfl) (by rfl) (by rfl) (fun R hkeep => ?_) m);refine qy ?_;refine W.loop (ι := Nat) (fun k => ⟨upd (upd (upd (upd (upd (fun _ => .top) 0 (.c (.sl (ps.map nO)))) 3 (.c (.int .i64 (ps.take k).flatten.length))) 9 (.c (.sl (ps.map nO)))) 10 (.c (.int .i64 ps.length))) 11 (.c (.int .i64 k)), Mem.nil⟩)
  (fun k => k ≤ ps.length) (fun k => ps.length - k) 0 ?start (Nat.zero_le _) ?round
 case start =>
  exact Ae
 case round =>
  intro k hk;refine qy ?_;refine W.cond rfl ?_ ?_
  ·intro hlt;replace hlt := dtl hlt;obtain ⟨l, hl⟩ : ∃ l, ps[k]? = some l := ⟨_, List.getElem?_eq_getElem hlt⟩;have hle := vZ ps (k + 1);rw [l8 ps hl, List.length_append] at hle;have hw : IntKind.i64.wrap (((ps.take k).flatten.length : Int) + (l.length : Int)) = ((ps.take (k + 1)).flatten.length : Int) := by
    exact Te
   have hneg : ¬ (((ps.take (k + 1)).flatten.length : Int) < 0) := by omega
   repeat (first | refine W.q ?_ | refine W.g ?_ (by simp only [exb, simprocAttr, tabs, V.tabs, bA hl, nO, hw]; rfl))
   refine W.cond rfl (fun h => absurd (by simpa using h) hneg) (fun _ => ?_);refine qy ?_;exact WQ
  ·intro hge;replace hge := dnl hge;obtain rfl : k = ps.length := by omega
   rw [List.take_length];refine qy ?_;refine zm1 ?_;refine aj 1 kF ?_;refine jo rfl rfl rfl rfl rfl rfl (by simp) cw2 (Sv _ hn _ 24 rfl) ?_;refine aA kF ?_;refine qy ?_;refine W.loop (ι := Nat) (fun k => ⟨upd (upd (upd (upd (fun _ => .top) 6 (.own 24)) 25 (.c (.sl (ps.map nO)))) 26 (.c (.int .i64 ps.length))) 27 (.c (.int .i64 k)), upd Mem.nil 24 (some (.arr 46 2 ((ps.take k).flatten.map aJ)))⟩)
    (fun k => k ≤ ps.length) (fun k => ps.length - k) 0 ?start2 (Nat.zero_le _) ?round2
   case start2 =>
    exact Ae
   case round2 =>
    intro k hk;refine qy ?_;refine W.cond rfl ?_ ?_
    ·intro hlt;replace hlt := dtl hlt;obtain ⟨l, hl⟩ : ∃ l, ps[k]? = some l := ⟨_, List.getElem?_eq_getElem hlt⟩;have hle := vZ ps (k + 1);have hft := l8 ps hl;rw [hft, List.length_append] at hle
     repeat (first | refine W.q ?_ | refine W.g ?_ (by simp only [exb, simprocAttr, tabs, V.tabs, bA hl, nO]; rfl))
     refine zm1 ?_;refine aj 2 kF ?_;refine cK ah 24 rfl rfl rfl rfl rfl rfl rfl rfl (by first | rfl | (simp only [exb, simprocAttr, tabs, V.tabs]; rfl)) rfl rfl rfl rfl (cu hkeep) (by intro z hz; obtain ⟨s, -, rfl⟩ := List.mem_map.1 hz; rfl) Ai (by decide) ?_;refine aA kF ?_;refine qy ?_;exact VZ
    ·intro hge;replace hge := dnl hge;obtain rfl : k = ps.length := by omega
     rw [List.take_length];refine qy ?_;refine W.rt ?_;simp only [Tryz.f148, aU, ay, toT, fin, exb, simprocAttr, tabs, V.tabs]
end E
mutual
def qV (N : Nat) : Expr → Prop
 | ⟨_, _, _, kids⟩ => kids.length ≤ N ∧ iY N kids
def iY (N : Nat) : List Expr → Prop
 | [] => True
 | x :: l => qV N x ∧ iY N l
end
mutual
def nW (N : Nat) : Stmt → Prop
 | ⟨_, _, _, _, es, th, el⟩ => es.length ≤ N ∧ iY N es ∧ th.length ≤ N ∧ eX N th ∧ el.length ≤ N ∧ eX N el
def eX (N : Nat) : List Stmt → Prop
 | [] => True
 | x :: l => nW N x ∧ eX N l
end
theorem eX.mem {N : Nat} : ∀ {l : List Stmt} {x : Stmt}, eX N l → x ∈ l → nW N x
 | y :: l, x, h, hx => by
   simp only [eX] at h;rcases List.mem_cons.1 hx with rfl | hx
   ·exact h.1
   ·exact eX.mem h.2 hx
theorem iY.mem {N : Nat} : ∀ {l : List Expr} {x : Expr}, iY N l → x ∈ l → qV N x
 | y :: l, x, h, hx => by
   simp only [iY] at h;rcases List.mem_cons.1 hx with rfl | hx
   ·exact h.1
   ·exact iY.mem h.2 hx
theorem set_self {α : Type} {l : List α} {k : Nat} {x : α} (h : l[k]? = some x) : l.set k x = l := by
 obtain ⟨h1, h2⟩ := List.getElem?_eq_some_iff.1 h;rw [← h2];exact List.set_getElem_self h1
theorem zQ : ∃ i z, Tryz.prog.info? 35 = some i ∧ i.zero = some z ∧ i.size = 4 ∧ i.bytes = 56 ∧ z.cells.size = 4 := by
 exact YF
theorem PZ : ∃ i z, Tryz.prog.info? 37 = some i ∧ i.zero = some z ∧ i.size = 7 ∧ i.bytes = 120 ∧ z.cells.size = 7 := by
 obtain ⟨i, z, h1, h2, h3, -⟩ := V.ah.zero 37 _ rfl;obtain ⟨-, ⟨i', h4, h5⟩, -⟩ := V.ah.ty 37 _ _ rfl;obtain ⟨i2, h6, h7⟩ := V.ah.bytes 37 _ rfl;exact VH
def vg : Tab := { tab with eff := fun f => f == 173 || f == 167 }
namespace F
theorem ah : vg.Ok Tryz.prog := ⟨V.ah.ty, V.ah.zero, V.ah.elem, V.ah.off, V.ah.bool, V.ah.fields, V.ah.bytes, V.ah.nilk, V.ah.int, V.ah.map, V.ah.str, V.ah.one, V.ah.seq⟩
theorem tabs : vg.ty = tab.ty ∧ vg.zero = tab.zero ∧ vg.elem = tab.elem ∧ vg.off = tab.off ∧ vg.bool = tab.bool ∧ vg.fields = tab.fields ∧ vg.bytes = tab.bytes ∧ vg.nilk = tab.nilk ∧ vg.int = tab.int ∧ vg.map = tab.map ∧ vg.str = tab.str ∧ vg.one = tab.one ∧ vg.seq = tab.seq := ⟨rfl, rfl, rfl, rfl, rfl, rfl, rfl, rfl, rfl, rfl, rfl, rfl, rfl⟩
theorem Xc (l : List Expr) (hl : l.length ≤ 1048576) (M : Mem) (id : Nat) (hid : M id = none) : dJ Tryz.prog 173 [.c (.sl (l.map cExpr))] M [] (.own id) (upd M id (some (.mrow 35 4 (l.map cExpr)))) :=
 wU Tryz.Eh zQ (by decide) (enters_of Tryz.func173 (by kernel_rfl) rfl) (l.map cExpr) (fun x hx => by obtain ⟨y, -, rfl⟩ := List.mem_map.1 hx; cases y; rfl) JK M id hid
set_option maxHeartbeats 2000000 in
theorem Ns : ∀ (d : Nat) (l : List Expr), mR l ≤ d → l.length ≤ 1048576 → iY 1048576 l → ∀ m, COk Tryz.prog 168 [.c (.sl (l.map cExpr))] m (.c (.sl (l.map cExpr))) := by
 intro d;induction d using Nat.strongRecOn with
 | ind d ih =>
 intro l hd hlen hS m;refine (aS ah Tryz.func168 (by kernel_rfl) rfl rfl (by rfl) (by rfl) (by rfl) (fun R hkeep => ?_) m);refine qy ?_;refine zm1 ?_;refine aj 1 kF ?_;refine jo rfl rfl rfl rfl rfl rfl (by simp) cw1 (Xc l hlen _ 6 rfl) ?_;refine aA kF ?_;refine qy ?_;refine W.loop (ι := Nat) (fun k => ⟨upd (upd (upd (upd (fun _ => .top) 0 (.own 6)) 7 (.own 6)) 8 (.c (.int .i64 l.length))) 9 (.c (.int .i64 k)), upd Mem.nil 6 (some (.mrow 35 4 (l.map cExpr)))⟩)
  (fun k => k ≤ l.length) (fun k => l.length - k) 0 ?start (Nat.zero_le _) ?round
 case start =>
  exact Ae
 case round =>
  intro k hk;refine qy ?_;refine W.cond rfl ?_ ?_
  ·intro hlt;replace hlt := dtl hlt;obtain ⟨x, hx⟩ : ∃ x, l[k]? = some x := ⟨_, List.getElem?_eq_getElem hlt⟩;have hxm := List.mem_of_getElem? hx;obtain ⟨kd, nn, nm, kids⟩ := x;have hsx := hS.mem hxm;simp only [qV] at hsx;have hdx : wO ⟨kd, nn, nm, kids⟩ ≤ mR l := uT hxm;simp only [wO] at hdx
   repeat (first | refine W.q ?_ | refine W.g ?_ P7)
   refine zm1 ?_;refine aj 4 P7 ?_;refine av rfl rfl rfl rfl rfl (by simp) cw1 (ih (mR kids) (by omega) kids (Nat.le_refl _) hsx.1 hsx.2 _) ?_;refine aA P7 ?_;refine qy ?_;refine Je ?_;have hset : (l.map cExpr).set k [.int .i64 kd, .int .i64 nn, .str nm, .sl (kids.map cExpr)] = l.map cExpr := set_self (by rw [bA hx]; simp only [cExpr, aX]);exact abp
  ·intro hge;replace hge := dnl hge;obtain rfl : k = l.length := by omega
   refine W.freeze 0 6 rfl rfl (cu hkeep) ?_;refine qy ?_;refine W.rt ?_;simp only [Tryz.f168, aU, ay, toT, fin, exb, simprocAttr, tabs, V.tabs]
theorem XC (l : List Stmt) (hl : l.length ≤ 1048576) (M : Mem) (id : Nat) (hid : M id = none) : dJ Tryz.prog 167 [.c (.sl (l.map aW))] M [] (.own id) (upd M id (some (.mrow 37 7 (l.map aW)))) :=
 wU Tryz.EB PZ (by decide) (enters_of Tryz.func167 (by kernel_rfl) rfl) (l.map aW) (fun x hx => by obtain ⟨y, -, rfl⟩ := List.mem_map.1 hx; cases y; rfl) JK M id hid
set_option maxHeartbeats 4000000 in
theorem Nw : ∀ (d : Nat) (l : List Stmt), jE l ≤ d → l.length ≤ 1048576 → eX 1048576 l → ∀ m, COk Tryz.prog 149 [.c (.sl (l.map aW))] m (.c (.sl (l.map aW))) := by
 intro d;induction d using Nat.strongRecOn with
 | ind d ih =>
 intro l hd hlen hS m;refine (aS ah Tryz.func149 (by kernel_rfl) rfl rfl (by rfl) (by rfl) (by rfl) (fun R hkeep => ?_) m);refine qy ?_;refine zm1 ?_;refine aj 1 kF ?_;refine jo rfl rfl rfl rfl rfl rfl (by simp) cw1 (XC l hlen _ 6 rfl) ?_;refine aA kF ?_;refine qy ?_;refine W.loop (ι := Nat) (fun k => ⟨upd (upd (upd (upd (fun _ => .top) 0 (.own 6)) 7 (.own 6)) 8 (.c (.int .i64 l.length))) 9 (.c (.int .i64 k)), upd Mem.nil 6 (some (.mrow 37 7 (l.map aW)))⟩)
  (fun k => k ≤ l.length) (fun k => l.length - k) 0 ?start (Nat.zero_le _) ?round
 case start =>
  exact Ae
 case round =>
  intro k hk;refine qy ?_;refine W.cond rfl ?_ ?_
  ·intro hlt;replace hlt := dtl hlt;obtain ⟨x, hx⟩ : ∃ x, l[k]? = some x := ⟨_, List.getElem?_eq_getElem hlt⟩;have hxm := List.mem_of_getElem? hx;obtain ⟨kd, nn, ty, nm, es, th, el⟩ := x;have hsx := hS.mem hxm;simp only [nW] at hsx;obtain ⟨s1, s2, s3, s4, s5, s6⟩ := hsx;have hdx : tX ⟨kd, nn, ty, nm, es, th, el⟩ ≤ jE l := pQ hxm;simp only [tX] at hdx
   repeat (first | refine W.q ?_ | refine W.g ?_ RD)
   refine zm5 ?_;refine aj 8 RD ?_;refine av rfl rfl rfl rfl rfl (by simp) cw1 (Ns (mR es) es (Nat.le_refl _) s1 s2 _) ?_;refine aj 2 RD ?_;refine av rfl rfl rfl rfl rfl (by simp) cw1 (ih (jE th) (by omega) th (Nat.le_refl _) s3 s4 _) ?_;refine aj 2 RD ?_;refine av rfl rfl rfl rfl rfl (by simp) cw1 (ih (jE el) (by omega) el (Nat.le_refl _) s5 s6 _) ?_;have hset : (l.map aW).set k [.int .i64 kd, .int .i64 nn, .str ty, .str nm, .sl (es.map cExpr), .sl (th.map aW), .sl (el.map aW)] = l.map aW := set_self (by rw [bA hx]; simp only [aW, aX, bf]);refine aA (by simp only [exb, simprocAttr, tabs, V.tabs, hlt, bA hx, aW, aX, bf, hset]; rfl) ?_;refine qy ?_;refine Je ?_;exact abp
  ·intro hge;replace hge := dnl hge;obtain rfl : k = l.length := by omega
   refine W.freeze 0 6 rfl rfl (cu hkeep) ?_;refine qy ?_;refine W.rt ?_;simp only [Tryz.f149, aU, ay, toT, fin, exb, simprocAttr, tabs, V.tabs]
end F
section
variable {P : Go.Program}
theorem W.Jg {R : Ref} {n : Nat} {ds : List Deferred} {st : St} {c : Code} {K : Exit → St → Prop} (j k : Nat) {tyb : TypeId} {cells : List A} (hj : st.m j = some (.box tyb cells)) (hk : cells[k]? = some .nil)
 (h : W P R n ds ⟨st.s, upd st.m j (some (.box tyb (cells.set k (.c (.sl [])))))⟩ c K) : W P R n ds st c K := by
 intro a w hr
 refine h a w ?_
 obtain ⟨⟨B, I, hm, hx0, hkp, hs⟩, h2, h3, hnn, h4, h5⟩ := hr
 obtain ⟨b, vs, e1, e2, e3, e4⟩ := hm.objs j _ hj
 have liv : ∀ i, (st.m i).isSome = true → (upd st.m j (some (.box tyb (cells.set k (.c (.sl []))))) i).isSome = true := fun i hi => by
  exact Kk
 have hm2 := hm.turn (o' := .box tyb (cells.set k (.c (.sl [])))) hj ⟨0, e1⟩ (fun q hq => by obtain ⟨off, hq⟩ := hq; rw [e1] at hq; cases hq; rfl) e4 rfl rfl rfl rfl (fun _ _ => rfl) (fun i hi => by
  obtain ⟨a', ha', hi'⟩ := List.mem_flatMap.1 hi;rcases List.mem_or_eq_of_mem_set ha' with ha' | rfl
  ·exact hm.live j _ hj i (List.mem_flatMap.2 ⟨a', ha', hi'⟩)
  ·simp [A.ids] at hi') (fun _ => by
  refine ⟨b, vs, e1, e2, ?_, e4⟩;have hl := e3.length;refine RVs.of Kr fun q a' v' ha' hv' => ?_;rw [List.getElem?_set] at ha';split at ha'
  ·rename_i hq;subst hq;split at ha'
   ·cases ha'
    obtain ⟨v2, q1, q2, q3⟩ := e3.at k _ hk;rw [hv'] at q1; cases q1;have hv : v' = .slice none 0 0 := q2;subst hv;exact ⟨RC.sl (e := 0) (fun _ _ => undef) rfl (Nat.le_refl _) (Nat.zero_le _) (fun x hx => by simp at hx) (fun i x hx => by simp at hx) (fun i j x c hx _ => by simp at hx), q3⟩
   ·cases ha'
  ·obtain ⟨v2, q1, q2, q3⟩ := e3.at q _ ha';rw [hv'] at q1; cases q1;exact ⟨q2, q3⟩)
 exact ⟨⟨B, I, hm2.1, hx0, hkp, fun t => hs t⟩, fun t i hi => liv i (h2 t i hi), h3, hnn, h4, fun i hi => liv i (h5 i hi)⟩
end
def tu (cs : List Class) (x : Nat × Nat) : List Slot := match cs[x.2]? with | some k => k.fields | none => []
def jw (cs : List Class) (l : List (Nat × Nat)) : List Slot := l.reverse.flatMap (tu cs)
theorem qz {cs : List Class} (h : fu cs) : ∀ l : List (Nat × Nat), (jw cs l).length ≤ l.length * 1048576
 | [] => by simp [jw]
 | x :: l => by
   have ih := qz h l;unfold jw at *;rw [List.reverse_cons, List.flatMap_append, List.length_append, List.length_cons];have : ([x].flatMap (tu cs)).length ≤ 1048576 := by
    simp only [List.flatMap_cons, List.flatMap_nil, List.append_nil];unfold tu;split
    ·rename_i k hk; exact (h k (List.mem_of_getElem? hk)).1
    ·simp
   rw [Nat.add_mul];omega
def iK (E : Int) (cs : List Class) (n : ByteArray) : List Slot := if E = 0 then jw cs (upX cs (cs.length + 1) 0 n) else []
def wQ (cs : List Class) (mn : C) (l : List Slot) : Mem :=
 upd (upd Mem.nil 2 (some (.box 25 [.c (.sl (cs.map au)), .c mn]))) 4 (some (.box 39 [.c (.sl (l.map aJ))]))
def yU : Nat → A := upd (upd (fun _ => .top) 2 (.ptr 2 0)) 4 (.ptr 4 0)
namespace E
set_option maxRecDepth 100000 in
set_option maxHeartbeats 1000000 in
theorem I7 (p : Program) (E : Int) (name : ByteArray) (hS : fu p.classes) (hlen : p.classes.length ≤ 1000000000) (h16 : E = 0 → p.classes.length ≤ 16) (hchk : ∀ m, COk Tryz.prog 16 [.agg (bI p)] m (.c (.int .i64 E))) (m : Mem) :
 COk Tryz.prog 119 [.agg (bI p), .c (.str name)] m (.c (.sl ((iK E p.classes name).map aJ))) := by
 obtain ⟨cs, mn'⟩ := p
 dsimp only at hS hlen h16 hchk ⊢
 generalize hmn : C.sl (aO mn') = mn
 have hpr : bI ⟨cs, mn'⟩ = [.sl (cs.map au), mn] := by rw [← hmn]; rfl
 rw [hpr] at hchk ⊢
 refine (wE ah Tryz.func119 (by kernel_rfl) rfl rfl (by rfl) (by rfl) (by rfl) (fun R hkeep => ?_) m)
 repeat (first | refine W.q ?_ | refine W.g ?_ kF)
 refine W.bR ah 0 (by decide) ?_
 refine aj 1 kF ?_
 refine av rfl rfl rfl rfl rfl (by simp) cw1 (hchk _) ?_
 refine aA kF ?_
 refine W.cond rfl ?_ ?_
 ·intro h
  have he : E ≠ 0 := by simpa using h
  repeat (first | refine W.q ?_ | refine W.g ?_ kF)
  refine W.ret ⟨.inr rfl, .inl ⟨rfl, ?_⟩⟩
  simp only [Tryz.f119, aU, ay, toT, fin, exb, simprocAttr, tabs, V.tabs]
  simp [iK, he]
 intro h
 have he : E = 0 := by simpa using h
 subst he
 have h16 := h16 rfl
 repeat (first | refine W.q ?_ | refine W.g ?_ kF)
 refine W.Jg 4 0 rfl rfl ?_
 repeat (first | refine W.q ?_ | refine W.g ?_ kF)
 refine W.bR ah 0 (by decide) ?_
 refine aj 2 kF ?_
 refine jo rfl rfl rfl rfl rfl rfl (by simp) cw2 (Kg (cs.map au) mn name _ 1000 1001 rfl rfl (by decide)) ?_
 refine aA kF ?_
 repeat (first | refine W.q ?_ | refine W.g ?_ kF)
 have hG : ∀ l, GoodM R.keep yU 1000 1001 1002 1003 (wQ cs mn l) := fun l => by
  refine ⟨?_, rfl, rfl, rfl, rfl, ?_, aQ hkeep⟩
  ·unfold wQ;exact VG
  ·show SWf _ _;unfold wQ yU;exact Wx
 have hul := nN cs (cs.length + 1) 0 name
 refine W.zw cs name mn 1000 1001 1002 1003 yU (fun k => wQ cs mn (jw cs ((upX cs (cs.length + 1) 0 name).take k))) (fun _ => True) (by omega) rfl rfl rfl (by decide) rfl rfl (by decide) trivial rfl ?sle ?sn ?m0 (fun k _ => hG _) ?round ?done
 case sle =>
  unfold yU;exact Uq
 case sn =>
  unfold yU;exact Pw
 case m0 =>
  refine vk ?_;unfold wQ;(repeat (first | exact aV _ | exact aF _ | refine aT ?_ (by first | rfl | (simp only [ak, aB, Nat.reduceEqDiff, reduceIte, List.take_zero, jw, List.reverse_nil, List.flatMap_nil, List.map_nil, List.set_cons_zero]; done))))
 case round =>
  intro R' l hk' k j kc x1 x2 xL _ hitem hkc;have hacc : (jw cs ((upX cs (cs.length + 1) 0 name).take k)).length ≤ 17 * 1048576 := by
   have h1 := qz hS ((upX cs (cs.length + 1) 0 name).take k);have h2 := List.length_take_le' k (upX cs (cs.length + 1) 0 name);have h3 : ((upX cs (cs.length + 1) 0 name).take k).length ≤ 17 := Nat.le_trans h2 (Nat.le_trans hul (Nat.succ_le_succ h16));exact Nat.le_trans h1 (Nat.mul_le_mul_right _ h3)
  have hfl := (hS kc (List.mem_of_getElem? hkc)).1;have hF : [kc.fields, jw cs ((upX cs (cs.length + 1) 0 name).take k)].flatten = jw cs ((upX cs (cs.length + 1) 0 name).take (k + 1)) := by
   rw [List.take_add_one, hitem];simp [jw, tu, hkc]
  generalize jw cs ((upX cs (cs.length + 1) 0 name).take k) = acc at hacc hF ⊢;refine Y0 ?_;refine ⟨rfl, fun xL' => ?_⟩;refine Y0 ?_;refine Rj ?_;refine aj 4 aaG ?_;refine av rfl rfl rfl rfl rfl (by simp) cw1 (xg [kc.fields, acc] (by simp) (by simp only [List.flatten_cons, List.flatten_nil, List.append_nil, List.length_append]; omega) _) ?_;rw [hF];refine aA aa1 ?_
  repeat (first | refine WI.seq ?_ | refine WI.block ?_ | refine WI.skip ?_ | refine WI.exit ?_ | refine WI.region ah 0 (by decide) (by kernel_rfl) (aR aa1) ?_)
  refine ⟨trivial, fun j => j, Le.toT ?_⟩;simp only [bH, wQ];refine dU ?sle ?mle ?swf ?mwf (fun j hj => iP (hG _) hj) (by rfl)
  case swf => repeat (first | exact bP _ | refine bQ ?_ (by simp [A.ids, ak, bH, wQ]))
  case mwf => repeat (first | exact d9 _ | refine dS ?_ (by simp [A.ids, O.ids, ak, bH, wQ]))
  case mle => repeat (first | exact aV _ | exact aF _ | refine aT ?_ (by first | rfl | (simp only [ak, aB, O.kill, A.kill, Nat.reduceEqDiff, reduceIte, Option.map_some, Option.map_none, List.map_cons, List.map_nil, bH, wQ]; done)))
  case sle => repeat (first | exact aM _ | exact aH _ | refine aL ?_ (by first | rfl | (simp only [ak, bB, A.kill, aD, aC, Nat.reduceEqDiff, reduceIte, bH, wQ]; done)))
 case done =>
  intro _ b;rw [List.take_length]
  repeat (first | refine W.q ?_ | refine W.g ?_ (by simp only [exb, simprocAttr, tabs, V.tabs, eP, fF, DID, wQ, yU]; rfl))
  refine RZ ?_;simp only [Tryz.f119, aU, ay, toT, fin, eP, fF, DID, exb, simprocAttr, tabs, V.tabs, wQ];simp [iK]
end E
end V
end Go.Proofs.YtgaipdillmleeaaGreat
end
