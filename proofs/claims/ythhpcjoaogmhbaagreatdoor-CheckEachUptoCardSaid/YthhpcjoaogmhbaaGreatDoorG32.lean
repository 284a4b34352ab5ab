/- Joined by my own program, in build order: On, Bk0, Rwb, Bk1, Sp, FitP7, Have, RP, Bulk7, Ea, Varr, Vqg, Eb, Def, De, Vnp, Bk, Me, Ch, Ps, Bd, Be, Bw, Pd. -/
import Derived.Test.YthhpcjoaogmhbaaGreatDoorG31
import Derived.Test.YthhpcjoaogmhbaaGreatDoorG30
import Derived.Test.YthhpcjoaogmhbaaGreatDoorG27
import Derived.Lib.AppendStr
import Derived.Test.YthhpcjoaogmhbaaGreatDoorChecked
import Derived.Lib.Builder
import Derived.Lib.UnsafeStr
import Derived.WalkKit
import Derived.Laws.Externs
import Derived.Tactics
import Derived.Tactics2
import Derived.Defers
set_option linter.unusedVariables false
set_option linter.unusedSimpArgs false
section
namespace Go.Proofs.YthhpcjoaogmhbaaGreatDoor
namespace V
open Go.RowKit
def lK (L : List ByteArray) (n : ByteArray) : Bool := L.any fun y => y.toList == n.toList
def gI (L : List ByteArray) : List ByteArray → Option (List ByteArray × ByteArray)
 | [] => none
 | x :: r => if lK L x = true then some (L, x) else gI (L ++ [x]) r
theorem yh : ∀ (L l : List ByteArray), tY L l = (gI L l).isNone
 | L, [] => rfl
 | L, x :: r => by
   unfold tY gI
   have ih := yh (L ++ [x]) r
   cases h : lK L x with
   | true => unfold lK at h; simp [h]
   | false => unfold lK at h; simp [h, ih]
theorem iP : ∀ (L a b : List ByteArray), gI L a = none → gI L (a ++ b) = gI (L ++ a) b
 | L, [], b, _ => by simp
 | L, x :: a, b, h => by
   simp only [gI] at h
   rw [List.cons_append, gI]
   cases hs : lK L x with
   | true => rw [hs] at h; simp at h
   | false =>
     rw [hs] at h
     simp only [Bool.false_eq_true, if_false] at h ⊢
     rw [iP (L ++ [x]) a b h]
     simp
theorem tJ : ∀ (L a b : List ByteArray) {r : List ByteArray × ByteArray}, gI L a = some r → gI L (a ++ b) = some r
 | L, [], b, r, h => by simp [gI] at h
 | L, x :: a, b, r, h => by
   simp only [gI] at h
   rw [List.cons_append, gI]
   cases hs : lK L x with
   | true => rw [hs] at h; simpa using h
   | false =>
     rw [hs] at h
     simp only [Bool.false_eq_true, if_false] at h ⊢
     exact tJ (L ++ [x]) a b h
theorem om : ∀ a b : List Stmt, bA (a ++ b) = bA a ++ bA b
 | [], b => by simp [bA]
 | x :: a, b => by simp [bA, om a b]
def gH (L : List ByteArray) : List (A1 × A1) := L.map fun n => (.c (.str n), .c (.int .i64 1))
theorem kL (L : List ByteArray) (n : ByteArray) : gH (L ++ [n]) = gH L ++ [(.c (.str n), .c (.int .i64 1))] := by simp [gH]
theorem fF (L : List ByteArray) : (gH L).flatMap (fun p => p.1.ids ++ p.2.ids) = [] := by
 induction L with
 | nil => rfl
 | cons z l ih => rw [gH, List.map_cons, List.flatMap_cons]; exact ih
theorem DJ (a b : List UInt8) : (a == b) = (b == a) := by
 cases h : a == b with
 | true => rw [beq_iff_eq] at h; subst h; simp
 | false => cases h2 : b == a with
   | true => rw [beq_iff_eq] at h2; subst h2; simp at h
   | false => rfl
theorem tF {n : ByteArray} : ∀ {L : List ByteArray}, lK L n = false → gF (.c (.str n)) (gH L) = some none
 | [], _ => rfl
 | y :: l, h => by
   unfold lK at h
   rw [List.any_cons, Bool.or_eq_false_iff] at h
   have ih := tF (n := n) (L := l) h.2
   unfold gH at ih ⊢
   simp only [List.map_cons, gF, vg, DJ n.toList, h.1, ih]
theorem um {n : ByteArray} : ∀ {L : List ByteArray}, lK L n = true → ∃ q, gF (.c (.str n)) (gH L) = some (some (q, .c (.int .i64 1)))
 | [], h => by simp [lK] at h
 | y :: l, h => by
   cases e : y.toList == n.toList with
   | true =>
     refine ⟨0, ?_⟩
     unfold gH
     simp only [List.map_cons, gF, vg, DJ n.toList, e]
   | false =>
     unfold lK at h
     rw [List.any_cons, e, Bool.false_or] at h
     obtain ⟨q, ih⟩ := um (n := n) (L := l) h
     refine ⟨q + 1, ?_⟩
     unfold gH at ih ⊢
     simp only [List.map_cons, gF, vg, DJ n.toList, e, ih]
theorem CU {n : ByteArray} {y v : A1} : ∀ {l : List (A1 × A1)} {q : Nat}, gF (.c (.str n)) l = some (some (q, v)) → gF (.c (.str n)) (l.set q (.c (.str n), y)) = some (some (q, y))
 | [], q, h => by simp [gF] at h
 | p :: l, q, h => by
   simp only [gF] at h
   cases hk : vg (.c (.str n)) p.1 with
   | none => rw [hk] at h; cases h
   | some b =>
     rw [hk] at h
     cases b with
     | true =>
       simp only [Option.some.injEq, Prod.mk.injEq] at h
       obtain ⟨rfl, -⟩ := h
       simp [gF, vg]
     | false =>
       simp only at h
       cases hf : gF (.c (.str n)) l with
       | none => rw [hf] at h; cases h
       | some o =>
         rw [hf] at h
         match o, h with
         | some (i, u), h =>
           simp only [Option.some.injEq, Prod.mk.injEq] at h
           obtain ⟨rfl, rfl⟩ := h
           rw [List.set_cons_succ]
           simp only [gF, hk, CU hf]
def yu (L : List ByteArray) (n : ByteArray) : List (A1 × A1) := match gF (.c (.str n)) (gH L) with | some r => uZ (.c (.str n)) (.c (.int .i64 2)) (gH L) r | none => []
def lW (M : Mem) (j : Nat) (L ds : List ByteArray) : Option (A × Mem) := match gI L ds with | none => some (.tup [], upd M j (some (.map (gH (L ++ ds))))) | some _ => none
def lu (M : Mem) (j : Nat) (L ds : List ByteArray) : Mem := match gI L ds with | some (L', n) => upd M j (some (.map (yu L' n))) | none => M
theorem KY {l : List (A1 × A1)} {q : Nat} {x : A1 × A1} (h : l.flatMap (fun p => p.1.ids ++ p.2.ids) = []) (hx : x.1.ids ++ x.2.ids = []) : (l.set q x).flatMap (fun p => p.1.ids ++ p.2.ids) = [] := by
 rw [List.flatMap_eq_nil_iff] at h ⊢
 intro y hy
 rcases List.mem_or_eq_of_mem_set hy with h1 | rfl
 ·exact h y h1
 ·exact hx
theorem Gh (L : List ByteArray) (n : ByteArray) : (yu L n).flatMap (fun p => p.1.ids ++ p.2.ids) = [] := by
 unfold yu
 cases gF (.c (.str n)) (gH L) with
 | none => rfl
 | some r =>
   match r with
   | none => show (gH L ++ _).flatMap _ = []; rw [List.flatMap_append, fF]; rfl
   | some (i, v) => exact KY (fF L) rfl
theorem Gd {M : Mem} {j : Nat} {L ds : List ByteArray} : ∀ i, (M i).isSome = true → (lu M j L ds i).isSome = true := fun i hi => by
 unfold lu
 cases gI L ds with
 | some r => exact bV i hi
 | none => exact hi
theorem K6 {M : Mem} {j : Nat} {L ds : List ByteArray} (hw : WFm M) : WFm (lu M j L ds) := by
 unfold lu
 split
 ·exact dA hw (fun i hi => by simp only [O.ids] at hi; rw [Gh] at hi; cases hi)
 ·exact hw
theorem Ia {M : Mem} {i j : Nat} {x y z : Option O} (hij : i ≠ j) (hi : M i = none) : MLe (upd (upd (upd M j x) i y) j z) (upd M j z) := fun u => by
 by_cases e1 : u = j
 ·subst e1; exact .inr (by rw [upd_same, upd_same])
 ·by_cases e2 : u = i
  ·subst e2; exact .inl (by rw [upd_ne _ _ e1]; exact hi)
  ·exact .inr (by simp [upd, e1, e2])
theorem N7 {M : Mem} {i j : Nat} {x y z : Option O} (hij : i ≠ j) : upd (upd (upd M j x) i y) j z = upd (upd M j z) i y := by
 funext u
 by_cases e1 : u = j
 ·subst e1; rw [upd_same, upd_ne _ _ (Ne.symm hij), upd_same]
 ·by_cases e2 : u = i
  ·subst e2; rw [upd_ne _ _ e1, upd_same, upd_same]
  ·simp [upd, e1, e2]
def uP : Tab := { tab with eff := fun f => f == 50 }
theorem OO.ah : uP.Ok Tryz.prog := ⟨V.ah.ty, V.ah.zero, V.ah.elem, V.ah.off, V.ah.bool, V.ah.fields, V.ah.bytes, V.ah.nilk, V.ah.int, V.ah.map, V.ah.str, V.ah.one, V.ah.seq⟩
theorem OO.tabs : uP.ty = tab.ty ∧ uP.zero = tab.zero ∧ uP.elem = tab.elem ∧ uP.off = tab.off ∧ uP.bool = tab.bool ∧ uP.fields = tab.fields ∧ uP.bytes = tab.bytes ∧ uP.nilk = tab.nilk ∧ uP.int = tab.int ∧ uP.map = tab.map ∧ uP.str = tab.str ∧ uP.one = tab.one ∧ uP.seq = tab.seq := ⟨rfl, rfl, rfl, rfl, rfl, rfl, rfl, rfl, rfl, rfl, rfl, rfl, rfl⟩
theorem LU {M : Mem} {i j : Nat} {x y z : Option O} (hij : i ≠ j) : MLe (upd (upd (upd M j x) i y) j z) (upd (upd M j z) i y) := mD (by
 funext u
 by_cases e1 : u = j
 ·subst e1; rw [upd_same, upd_ne _ _ (Ne.symm hij), upd_same]
 ·by_cases e2 : u = i
  ·subst e2; rw [upd_ne _ _ e1, upd_same, upd_same]
  ·simp [upd, e1, e2])
theorem W.join {P : Go.Program} {R : Ref} {n : Nat} {ds : List Deferred} {st X : St} {c c2 : Code} {K : Exit → St → Prop} {Y : Prop} (h : W P R n ds st c (zM (fun st' => Y ∧ Le R.keep st' X) K)) (h2 : Y → W P R n ds X c2 K) : W P R n ds st c (zM (fun st' => W P R n ds st' c2 K) K) :=
 W.mono h fun e st' h => by
  cases e <;> first | exact W.weaken h.2 (h2 h.1) | exact h
theorem KH : ∀ (n : Nat) (l : List Stmt), SizeOf.sizeOf l ≤ n → l.length ≤ 1048576 → gK 1048576 l → ∀ (M : Mem) (b j : Nat) (L : List ByteArray), (∀ d, M (b + d) = none) → M j = some (.map (gH L)) →
 R5 Tryz.prog 50 [.map j, .c (.sl (l.map dx))] M [] dJ (lu M j L (bA l)) (lW M j L (bA l)) := by
 intro n
 induction n using Nat.strongRecOn with
 | ind n ih =>
 intro l hn hl hS M b j L hfar hj
 have hjb : ∀ d, (j = b + d) = False := Dp hfar hj
 have hbj : ∀ d, (b + d = j) = False := Bj hfar hj
 obtain ⟨r, hr⟩ : ∃ r, lW M j L (bA l) = r := ⟨_, rfl⟩
 obtain ⟨Mx, hX⟩ : ∃ Mx, lu M j L (bA l) = Mx := ⟨_, rfl⟩
 rw [hr, hX]
 refine LH ah [] r Tryz.func50 (by kernel_rfl) rfl rfl (by rfl) (by rfl) ?ids ?res (fun i hi _ => by rw [← hX]; exact Gd i hi) (fun hw => by rw [← hX]; exact K6 hw) (fun hWF Rr hkeep => ?_)
 case ids => intro a ha i hi; simp at ha; rcases ha with rfl | rfl <;> simp [A.ids] at hi; subst hi; simp [hj]
 case res =>
  intro x M' hx
  rw [← hr] at hx
  unfold lW at hx
  cases hd : gI L (bA l) with
  | some r => rw [hd] at hx; cases hx
  | none =>
    rw [hd] at hx
    cases hx
    exact ⟨fun i hi => by simp [A.ids] at hi, fun i hi => bV i hi, fun hw => dA hw (fun i hi => by simp only [O.ids] at hi; rw [fF] at hi; cases hi)⟩
 have kept : ∀ i, Rr.keep i → (M i).isSome = true := fun i hi => by rw [hkeep] at hi; exact hi.1
 have hw11 : IntKind.i64.wrap (1 + 1) = 2 := rfl
 have hwb : IntKind.i64.wrap 2 = 2 := rfl
 have hwa : IntKind.i64.wrap 1 = 1 := rfl
 have hw01 : IntKind.i64.wrap (0 + 1) = 1 := rfl
 repeat (first | refine W.q ?_ | refine W.region ah b (by decide) xr0 ?_)
 refine W.loop (ι := Nat) (fun k => ⟨upd (upd (upd (upd (fun _ => .top) 0 (.map j)) 6 (.c (.sl (l.map dx)))) 7 (.c (.int .i64 l.length))) 8 (.c (.int .i64 k)), upd M j (some (.map (gH (L ++ bA (l.take k)))))⟩) (fun k => k ≤ l.length ∧ gI L (bA (l.take k)) = none) (fun k => l.length - k) 0 ?start ⟨Nat.zero_le _, rfl⟩ ?round
 case start =>
  refine dh ?sle ?mle ?swf ?mwf (fun i hi => bV i (kept i hi)) (by rfl)
  case swf => repeat (first | exact aT _ | refine aU ?_ (by simp [A.ids, av, hj]))
  case mwf => exact dA hWF (fun i hi => by simp only [O.ids] at hi; rw [fF] at hi; cases hi)
  case mle => exact mD (wX M (by rw [hj]; simp [bA])).symm
  case sle => repeat (first | exact aQ _ | exact aK _ | refine aP ?_ Px)
 case round =>
  rintro k ⟨hkl, hno⟩
  repeat (first | refine W.q ?_ | refine W.region ah b (by decide) xr0 ?_)
  refine W.cond rfl ?_ ?_
  ·intro hlt
   replace hlt := dtl hlt
   obtain ⟨x, hx⟩ : ∃ x, l[k]? = some x := ⟨_, List.getElem?_eq_getElem hlt⟩
   have hxm := List.mem_of_getElem? hx
   have hxs := List.sizeOf_lt_of_mem hxm
   have hSx := hS.mem hxm
   have hat := cZ (f := dx) hx
   have htk : bA (l.take (k + 1)) = bA (l.take k) ++ Cq x := by rw [List.take_add_one, hx, om]; simp [bA]
   have hsp : bA l = bA (l.take k) ++ (Cq x ++ bA (l.drop (k + 1))) := by rw [← List.append_assoc, ← htk, ← om, List.take_append_drop]
   obtain ⟨sk, sn, ty, nm, es, th, el⟩ := x
   simp only [sO] at hSx
   obtain ⟨-, -, q1, q2, q3, q4⟩ := hSx
   have hspec := Stmt.mk.sizeOf_spec sk sn ty nm es th el
   simp only [dx, dO] at hat
   simp only [Cq] at htk hsp
   generalize hL1 : L ++ bA (l.take k) = L1 at *
   have hf5 : M (b + 5) = none := hfar 5
   have hnow : gI L (bA l) = gI L1 ((if sk = 1 then [nm] else []) ++ bA th ++ bA el ++ bA (l.drop (k + 1))) := by rw [hsp, iP _ _ _ hno, hL1]
   have hl1 : ∀ u, L ++ (bA (l.take k) ++ u) = L1 ++ u := fun u => by rw [← List.append_assoc, hL1]
   refine W.bl ?_
   refine W.ak ah b (by decide) ?_
   refine aA (by simp only [exb, simprocAttr, hat, hf5, upd_same, hjb, hbj]; rfl) ?_
   simp only [iO]
   refine W.seq ?_
   refine W.join (X := ⟨upd (upd (upd (upd (upd (fun _ => .top) 0 (.map j)) 5 (.ptr (b + 5) 0)) 6 (.c (.sl (l.map dx)))) 7 (.c (.int .i64 l.length))) 8 (.c (.int .i64 k)), upd (upd M j (some (.map (gH (L1 ++ (if sk = 1 then [nm] else [])))))) (b + 5) (some (.box 118 [.c (.int .i64 sk), .c (.int .i64 sn), .c (.str ty), .c (.str nm), .c (.sl (fB es)), .c (.sl (th.map dx)), .c (.sl (el.map dx))]))⟩) (Y := gI L1 (if sk = 1 then [nm] else []) = none) ?own ?rest
   case own =>
    refine W.bl ?_
    refine W.ak ah b (by decide) ?_
    refine aA (by simp only [exb, simprocAttr, upd_same, hjb, hbj]; rfl) ?_
    refine W.cond rfl ?_ ?_
    ·intro h
     simp only [decide_eq_true_eq] at h
     subst h
     cases hs : lK L1 nm with
     | true =>
       obtain ⟨q, hfd⟩ := um hs
       have hf2 := CU (y := .c (.int .i64 2)) hfd
       have hd : gI L (bA l) = some (L1, nm) := by rw [hnow, if_pos rfl]; simp only [List.cons_append, gI, hs, if_true]
       have hr0 : lW M j L (bA l) = none := by unfold lW; rw [hd]
       have hX0 : lu M j L (bA l) = upd M j (some (.map ((gH L1).set q (.c (.str nm), .c (.int .i64 2))))) := by unfold lu; rw [hd]; simp only [yu, hfd]; rfl
       obtain rfl : r = none := hr.symm.trans hr0
       obtain rfl : Mx = _ := hX.symm.trans hX0
       refine W.bl ?_
       refine W.ak ah b (by decide) ?_
       refine aj 5 Tc ?_
       refine zJ ah (ents := gH L1) rfl (.inl rfl) rfl rfl R4 rfl rfl (by rfl) rfl hfd ?_
       refine xe0 ?_
       refine W.bl ?_
       refine W.iZ (base := b) (ch := dJ) ah 5 (by decide) rfl ?_
       refine aA Sz ?_
       exact ⟨_, dS rfl rfl rfl rfl (by simp) cw1 (eG _), by rfl, rfl, Ia (fun e => cast (hbj 5) e) hf5⟩
     | false =>
       have hfd := tF hs
       have hs2 : lK (L1 ++ [nm]) nm = true := by unfold lK; simp
       obtain ⟨q, hf2⟩ := um hs2
       rw [kL] at hf2
       refine W.bl ?_
       refine W.ak ah b (by decide) ?_
       refine aj 5 Tc ?_
       refine zJ ah (ents := gH L1) rfl (.inl rfl) rfl rfl R4 rfl rfl (by rfl) rfl hfd ?_
       refine xe0 ?_
       refine W.bl ?_
       refine W.ak ah b (by decide) ?_
       refine aj 5 Sz ?_
       refine au rfl rfl rfl rfl rfl (by simp) cw1 (dI _) ?_
       refine xe0 ?_
       refine ⟨by rw [if_pos rfl]; simp only [gI, hs]; rfl, ?_⟩
       rw [if_pos rfl, kL]
       refine dh ?sle ?mle ?swf ?mwf (fun i hi => by repeat (first | exact kept i hi | refine bV i ?_)) (by rfl)
       case swf => repeat (first | exact aT _ | refine aU ?_ L8)
       case mwf => exact dA (dA hWF (fun i hi => by simp only [O.ids] at hi; first | (rw [fF] at hi; cases hi) | (rw [← kL, fF] at hi; cases hi))) (fun i hi => by simp [O.ids, A.ids] at hi)
       case mle => first | exact aC _ | exact LU (fun e => cast (hbj 5) e)
       case sle => repeat (first | exact aQ _ | exact aK _ | refine aP ?_ zT)
    ·intro h
     simp only [decide_eq_false_iff_not] at h
     refine W.bl ?_
     refine ⟨by rw [if_neg h]; rfl, ?_⟩
     rw [if_neg h, List.append_nil]
     refine dh ?sle ?mle ?swf ?mwf (fun i hi => by repeat (first | exact kept i hi | refine bV i ?_)) (by rfl)
     case swf => repeat (first | exact aT _ | refine aU ?_ L8)
     case mwf => exact dA (dA hWF (fun i hi => by simp only [O.ids] at hi; first | (rw [fF] at hi; cases hi) | (rw [← kL, fF] at hi; cases hi))) (fun i hi => by simp [O.ids, A.ids] at hi)
     case mle => first | exact aC _ | exact LU (fun e => cast (hbj 5) e)
     case sle => repeat (first | exact aQ _ | exact aK _ | refine aP ?_ zT)
   case rest =>
    intro hdup
    generalize (if sk = 1 then [nm] else []) = A0 at *
    have hnow2 : gI L (bA l) = gI (L1 ++ A0) (bA th ++ (bA el ++ bA (l.drop (k + 1)))) := by rw [hnow, List.append_assoc, List.append_assoc, iP _ _ _ hdup]
    have hT := fun (M' : Mem) h1 h2 => ih (SizeOf.sizeOf th) (by omega) th (Nat.le_refl _) q1 q2 M' (b + 40) j (L1 ++ A0) h1 h2
    have far40 : ∀ (x : Option O) (o : Option O) d, (upd (upd M j x) (b + 5) o) (b + 40 + d) = none := fun x o d => by rw [upd_ne _ _ (by omega), upd_ne _ _ (fun e => cast (hbj (40 + d)) (by rw [← Nat.add_assoc]; exact e)), Nat.add_assoc]; exact hfar _
    have at40 : ∀ (x : Option O) (o : Option O), (upd (upd M j x) (b + 5) o) j = x := fun x o => by rw [upd_ne _ _ (fun e => cast (hjb 5) e), upd_same]
    cases hd : gI (L1 ++ A0) (bA th) with
    | some res =>
      obtain ⟨L', n'⟩ := res
      have hd1 : gI L (bA l) = some (L', n') := by rw [hnow2]; exact tJ _ _ _ hd
      have hXc : ∀ M' : Mem, (∀ d, M' (b + 40 + d) = none) → M' j = some (.map (gH _)) → Cw Tryz.prog 50 [.map j, .c (.sl ((th).map dx))] M' [] dJ (upd M' j (some (.map (yu L' n')))) := fun M' h1 h2 => by
       have := hT M' h1 h2; simp only [lW, lu, hd] at this; exact this
      have hr0 : lW M j L (bA l) = none := by unfold lW; rw [hd1]
      have hX0 : lu M j L (bA l) = upd M j (some (.map (yu L' n'))) := by unfold lu; rw [hd1]
      obtain rfl : r = none := hr.symm.trans hr0
      obtain rfl : Mx = _ := hX.symm.trans hX0
      refine W.bl ?_
      refine W.iZ (base := b) (ch := dJ) OO.ah 3 (by decide) rfl ?_
      refine aA Oz ?_
      exact ⟨_, oJ (D := []) (fun u hu => by simp at hu) rfl rfl rfl rfl (by simp) cw2 (hXc _ (far40 _ _) (at40 _ _)), by rfl, rfl, Ia (fun e => cast (hbj 5) e) hf5⟩
    | none =>
      have hC : ∀ M' : Mem, (∀ d, M' (b + 40 + d) = none) → M' j = some (.map (gH (L1 ++ A0))) → gU Tryz.prog 50 [.map j, .c (.sl (th.map dx))] M' [] (.tup []) (upd M' j (some (.map (gH (L1 ++ A0 ++ bA th))))) := fun M' h1 h2 => by
       have := hT M' h1 h2; simp only [lW, lu, hd] at this; exact this
      refine W.bl ?_
      refine W.ak OO.ah b (by decide) ?_
      refine aj 3 Oz ?_
      refine aJ (D := []) rfl rfl rfl rfl rfl (fun j hj => by simp at hj) (by simp) cw2 (hC _ (far40 _ _) (at40 _ _)) ?_
      simp only [bQ, dw, iO]
      refine xe0 ?_
      rw [N7 (fun e => cast (hbj 5) e)]
      clear hT hC
      have hnow3 : gI L (bA l) = gI (L1 ++ A0 ++ bA th) (bA el ++ bA (l.drop (k + 1))) := by rw [hnow2, iP _ _ _ hd]
      have hT := fun (M' : Mem) h1 h2 => ih (SizeOf.sizeOf el) (by omega) el (Nat.le_refl _) q3 q4 M' (b + 40) j (L1 ++ A0 ++ bA th) h1 h2
      have far40 : ∀ (x : Option O) (o : Option O) d, (upd (upd M j x) (b + 5) o) (b + 40 + d) = none := fun x o d => by rw [upd_ne _ _ (by omega), upd_ne _ _ (fun e => cast (hbj (40 + d)) (by rw [← Nat.add_assoc]; exact e)), Nat.add_assoc]; exact hfar _
      have at40 : ∀ (x : Option O) (o : Option O), (upd (upd M j x) (b + 5) o) j = x := fun x o => by rw [upd_ne _ _ (fun e => cast (hjb 5) e), upd_same]
      cases hd2 : gI (L1 ++ A0 ++ bA th) (bA el) with
      | some res =>
        obtain ⟨L', n'⟩ := res
        have hd1 : gI L (bA l) = some (L', n') := by rw [hnow3]; exact tJ _ _ _ hd2
        have hXc : ∀ M' : Mem, (∀ d, M' (b + 40 + d) = none) → M' j = some (.map (gH _)) → Cw Tryz.prog 50 [.map j, .c (.sl ((el).map dx))] M' [] dJ (upd M' j (some (.map (yu L' n')))) := fun M' h1 h2 => by
         have := hT M' h1 h2; simp only [lW, lu, hd2] at this; exact this
        have hr0 : lW M j L (bA l) = none := by unfold lW; rw [hd1]
        have hX0 : lu M j L (bA l) = upd M j (some (.map (yu L' n'))) := by unfold lu; rw [hd1]
        obtain rfl : r = none := hr.symm.trans hr0
        obtain rfl : Mx = _ := hX.symm.trans hX0
        refine W.bl ?_
        refine W.iZ (base := b) (ch := dJ) OO.ah 3 (by decide) rfl ?_
        refine aA Oz ?_
        exact ⟨_, oJ (D := []) (fun u hu => by simp at hu) rfl rfl rfl rfl (by simp) cw2 (hXc _ (far40 _ _) (at40 _ _)), by rfl, rfl, Ia (fun e => cast (hbj 5) e) hf5⟩
      | none =>
        have hC : ∀ M' : Mem, (∀ d, M' (b + 40 + d) = none) → M' j = some (.map (gH (L1 ++ A0 ++ bA th))) → gU Tryz.prog 50 [.map j, .c (.sl (el.map dx))] M' [] (.tup []) (upd M' j (some (.map (gH (L1 ++ A0 ++ bA th ++ bA el))))) := fun M' h1 h2 => by
         have := hT M' h1 h2; simp only [lW, lu, hd2] at this; exact this
        refine W.bl ?_
        refine W.ak OO.ah b (by decide) ?_
        refine aj 3 Oz ?_
        refine aJ (D := []) rfl rfl rfl rfl rfl (fun j hj => by simp at hj) (by simp) cw2 (hC _ (far40 _ _) (at40 _ _)) ?_
        simp only [bQ, dw, iO]
        refine xe0 ?_
        rw [N7 (fun e => cast (hbj 5) e)]
        repeat (first | refine W.q ?_ | refine W.region ah b (by decide) xr0 ?_)
        refine ⟨k + 1, ⟨hlt, ?_⟩, by omega, ?_⟩
        ·rw [htk, iP _ _ _ hno, hL1, List.append_assoc, iP _ _ _ hdup, iP _ _ _ hd]
         exact hd2
        have hfin : L ++ bA (l.take (k + 1)) = L1 ++ A0 ++ bA th ++ bA el := by rw [htk, hl1]; simp only [List.append_assoc]
        rw [hfin]
        refine dh ?sle ?mle ?swf ?mwf (fun i hi => by repeat (first | exact kept i hi | refine bV i ?_)) (by rfl)
        case swf => repeat (first | exact aT _ | refine aU ?_ L8)
        case mwf => exact dA hWF (fun i hi => by simp only [O.ids] at hi; rw [fF] at hi; cases hi)
        case mle => exact fT (aC _) ((upd_ne (f := M) (t := j) (u := b + 5) _ (fun e => cast (hbj 5) e)).trans hf5)
        case sle => repeat (first | exact aQ _ | exact aK _ | refine aP ?_ Ol)
  ·intro hge
   replace hge := dnl hge
   obtain rfl : k = l.length := by omega
   rw [List.take_length] at hno ⊢
   have hr0 : lW M j L (bA l) = some (.tup [], upd M j (some (.map (gH (L ++ bA l))))) := by unfold lW; rw [hno]
   obtain rfl : r = _ := hr.symm.trans hr0
   repeat (first | refine W.q ?_ | refine W.region ah b (by decide) xr0 ?_)
   exact ⟨by rfl, .inl rfl, by rfl, aC _⟩
end V
end Go.Proofs.YthhpcjoaogmhbaaGreatDoor
end
section
namespace Go.Proofs.YthhpcjoaogmhbaaGreatDoor
namespace V
mutual
def ED : Stmt → Prop
 | ⟨k, _, _, _, es, th, el⟩ => (k = 2 → es.length = 2) ∧ (k = 3 ∨ k = 4 ∨ k = 5 ∨ k = 6 → 1 ≤ es.length) ∧ es.length ≤ 1048576 ∧ kV es ∧ kH th ∧ kH el
def kH : List Stmt → Prop
 | [] => True
 | x :: l => ED x ∧ kH l
end
theorem kH.mem : ∀ {l : List Stmt} {x : Stmt}, kH l → x ∈ l → ED x
 | y :: l, x, h, hx => by
   simp only [kH] at h
   rcases List.mem_cons.1 hx with rfl | hx
   ·exact h.1
   ·exact kH.mem h.2 hx
end V
end Go.Proofs.YthhpcjoaogmhbaaGreatDoor
end
section
namespace Go.Proofs.YthhpcjoaogmhbaaGreatDoor
namespace V
open Go.RowKit
theorem MR.Jb {w0 w : World} {I0 I : Nat → Nat → Prop} {B : Nat → Value} {m : Mem} (hm : MR w0 I0 B I m w) {id : Nat} {ty e lo hi : Nat} {xs : List (List C)} (hj : m id = some (.mrow ty e xs)) (hh : hi ≤ xs.length) {v' : Value} (hx : RV B w I (.win id e lo hi) v') :
 MR w0 I0 (upd B id v') I (upd (eH id m) id (some (.mrow ty e ((xs.take hi).drop lo)))) w ∧ ∃ ad n cap, v' = .slice ad n cap := by
 obtain ⟨ad, n0, cap, hB, hlo, hhi, hv⟩ := hx
 obtain ⟨vs, hrow, hvs, hlx, hno⟩ := hm.objs id _ hj
 have hn0 : n0 = xs.length ∧ xs.length ≤ cap := by
  obtain ⟨ad', cp, e5, e6⟩ := hrow.shape
  rw [hB] at e5; cases e5; exact ⟨rfl, e6⟩
 obtain ⟨rfl, hnc⟩ := hn0
 have hvl := hvs.length
 have hfl := lC hlx
 have hlen : ((xs.take hi).drop lo).length = hi - lo := by simp; omega
 have hl1 : vs.length = xs.length * e := hrow.1
 have hle1 : hi * e ≤ xs.length * e := Nat.mul_le_mul_right e hh
 have hle2 : lo * e ≤ hi * e := Nat.mul_le_mul_right e hlo
 have hsub : (hi - lo) * e = hi * e - lo * e := Nat.sub_mul ..
 have hvl' : ((vs.take (hi * e)).drop (lo * e)).length = (hi - lo) * e := by simp; omega
 have hrow' : rowAt w ty e v' (hi - lo) ((vs.take (hi * e)).drop (lo * e)) := by
  refine ⟨hvl', ?_⟩
  rcases hrow.2 with ⟨e1, e2⟩ | ⟨g, off, c, cur, e1, hg, hnc', hm', hsz, htk⟩
  ·rw [hB] at e1
   simp only [Value.slice.injEq] at e1
   obtain ⟨rfl, -, rfl⟩ := e1
   obtain rfl : hi = 0 := by omega
   obtain rfl : lo = 0 := by omega
   exact .inl ⟨by rw [hv]; rfl, rfl⟩
  ·rw [hB] at e1
   cases e1
   by_cases hcl : cap = lo
   ·subst hcl
    obtain rfl : hi = cap := by omega
    refine .inr ⟨g, off, 0, cur, by rw [hv]; simp, hg, by omega, by omega, by omega, ?_⟩
    rw [Nat.sub_self, Nat.zero_mul, List.take_zero]
    exact (List.eq_nil_of_length_eq_zero (by rw [hvl']; simp)).symm
   ·have hcs : (cap - lo) * e = cap * e - lo * e := Nat.sub_mul ..
    have hle3 : lo * e ≤ cap * e := Nat.mul_le_mul_right e (by omega)
    refine .inr ⟨g, off + lo * e, cap - lo, cur, by rw [hv, if_neg hcl]; simp [Addr.add], hg, by omega, by omega, by omega, ?_⟩
    rw [← htk, List.take_take, Nat.min_eq_left (by omega), List.drop_take, List.drop_drop, ← hsub]
 have hob : v'.ownBlock = (B id).ownBlock ∨ v'.ownBlock = none := by
  rw [hv, hB]
  cases ad with
  | none => right; split <;> rfl
  | some z =>
    left
    split
    ·rfl
    ·obtain ⟨zb, zo, zs⟩ := z
     simp only [Value.ownBlock, Addr.add, Option.map_some]
     split <;> rfl
 have hflat : flat ((xs.take hi).drop lo) = ((flat xs).take (hi * e)).drop (lo * e) := by
  have ft : ∀ (k : Nat) (l : List (List C)), (∀ x ∈ l, x.length = e) → flat (l.take k) = (flat l).take (k * e) := by
   intro k
   induction k with
   | zero => intro l _; simp [flat]
   | succ k ih =>
     intro l hl
     cases l with
     | nil => simp [flat]
     | cons x l =>
       have hx := hl x (by simp)
       have := ih l (fun y hy => hl y (List.mem_cons_of_mem _ hy))
       have hk : (k + 1) * e = e + k * e := by rw [Nat.add_mul]; omega
       simp only [flat, List.take_succ_cons, List.flatten_cons] at this ⊢
       have h1 : x.length ≤ e + k * e := by omega
       have h2 : e + k * e - x.length = k * e := by omega
       rw [this, hk, List.take_append, List.take_of_length_le h1, h2]
  have fd : ∀ (k : Nat) (l : List (List C)), (∀ x ∈ l, x.length = e) → flat (l.drop k) = (flat l).drop (k * e) := by
   intro k
   induction k with
   | zero => intro l _; simp [flat]
   | succ k ih =>
     intro l hl
     cases l with
     | nil => simp [flat]
     | cons x l =>
       have hx := hl x (by simp)
       have := ih l (fun y hy => hl y (List.mem_cons_of_mem _ hy))
       have hk : (k + 1) * e = e + k * e := by rw [Nat.add_mul]; omega
       simp only [flat, List.drop_succ_cons, List.flatten_cons] at this ⊢
       have h1 : x.length ≤ e + k * e := by omega
       have h2 : e + k * e - x.length = k * e := by omega
       rw [this, hk, List.drop_append, List.drop_eq_nil_of_le h1, h2, List.nil_append]
  rw [fd _ _ (fun x hx => hlx x (List.mem_of_mem_take hx)), ft _ _ hlx]
 have hm' := hm.BM (id := id) (o' := .mrow ty e ((xs.take hi).drop lo)) (v' := v') (w' := w) (I' := I) hj rfl rfl rfl (Nat.le_refl _) (fun _ _ _ => rfl)
  (fun k hk => by
    have hk : (upd B id v' id).ownBlock = some k := hk
    rw [upd_same] at hk
    rcases hob with q | q
    ·rw [q] at hk; exact ⟨(hm.low id _ hj k hk).2, .inl hk⟩
    ·rw [q] at hk; cases hk)
  (Ext.refl _ _) (fun b p hp => .inl hp)
  ⟨_, by rw [upd_same, hlen]; exact hrow', by rw [hflat]; exact (hvs.take _).drop _, fun x hx => hlx x (List.mem_of_mem_take (List.mem_of_mem_drop hx)), fun b hb p hp => by
    rw [upd_same] at hb
    rcases hob with q | q
    ·rw [q] at hb; exact hno b hb p hp
    ·rw [q] at hb; cases hb⟩ (fun i hi => by simp [O.ids] at hi)
 obtain ⟨ad', cp', q, -⟩ := hrow'.shape
 exact ⟨hm', _, _, _, q⟩
theorem SR.Bg {R : Ref} {n : Nat} {ds : List Deferred} {st : St} {a : Act} {w : World} (j k id : Nat) {tyb ty e lo hi : Nat} {cells : List A} {xs : List (List C)} (hr : SR R n ds st a w) (hjb : st.m j = some (.box tyb cells)) (hk : cells[k]? = some (.win id e lo hi)) (hid : st.m id = some (.mrow ty e xs)) (hh : hi ≤ xs.length) (hji : j ≠ id) (hkp : ¬ R.keep id) :
 SR R n ds ⟨gD id st.s, upd (upd (eH id st.m) id (some (.mrow ty e ((xs.take hi).drop lo)))) j (some (.box tyb ((cells.map (A.kill id)).set k (.own id))))⟩ a w := by
 obtain ⟨⟨B, I, hm, hx0, hkp0, hs⟩, h2, h3, hnn, h4, h5⟩ := hr
 obtain ⟨b0, vs0, p1, p2, p3, p4⟩ := hm.objs j _ hjb
 obtain ⟨v', u1, u2, u3⟩ := p3.at k _ hk
 obtain ⟨hm', ad, nn, cap, hsh⟩ := hm.Jb hid hh u2
 have hBne : ∀ i, i ≠ id → upd B id v' i = B i := fun i hi => upd_ne _ _ hi
 have hj' : upd (eH id st.m) id (some (.mrow ty e ((xs.take hi).drop lo))) j = some (.box tyb (cells.map (A.kill id))) := by
  rw [upd_ne _ _ hji, aL, hjb]; rfl
 obtain ⟨b, vs, q1, q2, q3, q4⟩ := hm'.objs j _ hj'
 have hbb : b0 = b := by
  rw [hBne j hji, p1] at q1; cases q1; rfl
 subst hbb
 have hvv : vs0 = vs := by
  rw [p2] at q2
  have := Option.some.inj q2
  simp at this; exact this
 subst hvv
 have liv0 : ∀ i, (st.m i).isSome = true → (upd (eH id st.m) id (some (.mrow ty e ((xs.take hi).drop lo))) i).isSome = true := fun i hi => by
  unfold upd; split
  ·rfl
  ·rw [aL]; simpa using hi
 obtain ⟨hm2, hE2⟩ := hm'.turn (w' := w) (o' := .box tyb ((cells.map (A.kill id)).set k (.own id))) hj' ⟨0, q1⟩ (fun q hq => by obtain ⟨off, hq⟩ := hq; rw [q1] at hq; cases hq; rfl) q4 rfl rfl rfl rfl (fun _ _ => rfl) (fun i hi => by
  obtain ⟨a', ha', hi'⟩ := List.mem_flatMap.1 hi
  rcases List.mem_or_eq_of_mem_set ha' with ha' | rfl
  ·exact hm'.live j _ hj' i (List.mem_flatMap.2 ⟨a', ha', hi'⟩)
  ·simp [A.ids] at hi'; subst hi'; rw [upd_same]; rfl) (fun _ => by
  refine ⟨b0, vs0, q1, q2, ?_, q4⟩
  have hl := q3.length
  refine RVs.of Jj fun q a' v2 ha' hv2 => ?_
  rw [List.getElem?_set] at ha'
  split at ha'
  ·rename_i hq
   subst hq
   split at ha'
   ·cases ha'
    rw [hv2] at u1; cases u1
    exact ⟨⟨(upd_same ..).symm, _, _, _, hsh⟩, u3⟩
   ·cases ha'
  ·obtain ⟨v3, r1, r2, r3⟩ := q3.at q _ ha'
   rw [hv2] at r1; cases r1
   exact ⟨r2, r3⟩)
 have liv : ∀ i, (st.m i).isSome = true → (upd (upd (eH id st.m) id (some (.mrow ty e ((xs.take hi).drop lo)))) j (some (.box tyb ((cells.map (A.kill id)).set k (.own id)))) i).isSome = true := fun i hi => bV i (liv0 i hi)
 refine ⟨⟨_, I, hm2, hx0, fun i hi => (hBne i (fun e => hkp (e ▸ hi))).trans (hkp0 i hi), fun u => ?_⟩, fun u i hi => ?_, h3, hnn, ?_, fun i hi => liv i (h5 i hi)⟩
 ·show RV _ w I (gD id st.s u) _
  rw [aM]
  rcases (A.dW (id := id) (a := st.s u)).2 with q | ⟨q, hn⟩
  ·rw [q]; trivial
  ·rw [q]
   exact (hs u).mono (Ext.refl _ _) fun i hi => hBne i (fun e => hn (e ▸ hi))
 ·replace hi : i ∈ (gD id st.s u).ids := hi
  rw [aM] at hi
  exact liv i (h2 u i ((A.dW (id := id) (a := st.s u)).1 i hi).1)
 ·show _ = dfs (gD id st.s DID) ++ ds
  rw [aM, nD]; exact h4
theorem W.Bg {P : Go.Program} {R : Ref} {n : Nat} {ds : List Deferred} {st : St} {c : Code} {K : Exit → St → Prop} (j k id : Nat) {tyb ty e lo hi : Nat} {cells : List A} {xs : List (List C)} (hjb : st.m j = some (.box tyb cells)) (hk : cells[k]? = some (.win id e lo hi)) (hid : st.m id = some (.mrow ty e xs)) (hh : hi ≤ xs.length) (hji : j ≠ id) (hkp : ¬ R.keep id)
 (h : W P R n ds ⟨gD id st.s, upd (upd (eH id st.m) id (some (.mrow ty e ((xs.take hi).drop lo)))) j (some (.box tyb ((cells.map (A.kill id)).set k (.own id))))⟩ c K) : W P R n ds st c K := fun a w hr => h a w (hr.Bg j k id hjb hk hid hh hji hkp)
set_option maxRecDepth 100000 in
theorem zN (l : List Slot) (hl : l.length ≤ 1000000000) (M : Mem) (id : Nat) (hid : M id = none) : gU Tryz.prog 49 [.c (.sl (l.map bC))] M [] (.own id) (upd M id (some (.mrow 35 2 (l.map bC)))) :=
 wB Tryz.xP zQ (by decide) (enters_of Tryz.func49 (by kernel_rfl) rfl) (l.map bC) (fun x hx => by obtain ⟨y, -, rfl⟩ := List.mem_map.1 hx; rfl) IB M id hid
def KB (T : Tab) (l : List ResultVar) (ch : List PanicEntry) (Mx : Mem) : Option (A × Mem) → Exit → St → Prop
 | some (x, M'), e, st => (e = .normal ∨ e = .ret) ∧ dfs (st.s DID) = [] ∧ resE T st l = some x ∧ MLe st.m M'
 | none, e, st => e = .panic ch ∧ dfs (st.s DID) = [] ∧ MLe st.m Mx
def DB (Dy Dn : List Nat) : Option (A × Mem) → List Nat
 | some _ => Dy
 | none => Dn
def Qu (P : Go.Program) (f : FuncId) (args : List A) (M : Mem) (Dy Dn : List Nat) (ch : List PanicEntry) (Mx : Mem) : Option (A × Mem) → Prop
 | some (r, M') => gU P f args M Dy r M'
 | none => Cw P f args M Dn ch Mx
theorem Lb {P : Go.Program} {T : Tab} (hT : T.Ok P) {f : FuncId} {fn : Func} {c : Code} {l : List ResultVar} {args : List A} {M : Mem} (Dy Dn : List Nat) {ch : List PanicEntry} {Mx : Mem} (r : Option (A × Mem)) (hf : P.funcs[f]? = some fn) (hn : (fn.name == "runtime.NumGoroutine") = false) (hb : fn.body = some c) (hl : fn.results.toList = l)
 (hle : decide (args.length ≤ fn.ntmps ∧ fn.ntmps ≤ DID) = true) (hdf : args.all (fun a => !(match a with | .defs _ => true | _ => false)) = true) (hids : ∀ a ∈ args, ∀ j ∈ a.ids, (M j).isSome = true)
 (hr : ∀ x M', r = some (x, M') → (∀ j ∈ x.ids, (M' j).isSome = true) ∧ (∀ j, (M j).isSome = true → (M' j).isSome = true) ∧ (WFm M → WFm M')) (hsx : ∀ j, (M j).isSome = true → j ∉ Dn → (Mx j).isSome = true) (hwx : WFm M → WFm Mx)
 (hW : WFm M → ∀ R : Ref, R.keep = (fun j => (M j).isSome = true ∧ j ∉ DB Dy Dn r) → W P R fn.ntmps [] ⟨entry args, M⟩ c (KB T l ch Mx r)) : Qu P f args M Dy Dn ch Mx r := by
 match r, hr, hW with
 | some (x, M'), hr, hW =>
   obtain ⟨h1, h2, h3⟩ := hr x M' rfl
   exact oZ hT Dy hf hn hb hl hle hdf hids h1 h2 h3 (fun hWF R hR => W.mono (hW hWF R hR) fun e st ⟨q1, q2, q3, q4⟩ => ⟨q1, q2, q3, q4⟩)
 | none, hr, hW =>
   exact IW hT Dn hf hn hb hle hdf hids hsx hwx (fun hWF R hR => W.mono (hW hWF R hR) fun e st ⟨q1, q2, q3⟩ => ⟨q1, q2, q3⟩)
theorem W.Dr {P : Go.Program} {R : Ref} {n : Nat} {ds : List Deferred} {st : St} {c : Code} {K : Exit → St → Prop} (j k id : Nat) (hji : j ≠ id) (hkp : ¬ R.keep id)
 (h : W P R n ds st c fun e st' => ∃ tyb ty e0 lo hi cells xs, st'.m j = some (.box tyb cells) ∧ cells[k]? = some (.win id e0 lo hi) ∧ st'.m id = some (.mrow ty e0 xs) ∧ hi ≤ xs.length ∧ K e ⟨gD id st'.s, upd (upd (eH id st'.m) id (some (.mrow ty e0 ((xs.take hi).drop lo)))) j (some (.box tyb ((cells.map (A.kill id)).set k (.own id))))⟩) : W P R n ds st c K := fun a w hr =>
 wp_mono (h a w hr) fun e a' w' ⟨st', ⟨tyb, ty, e0, lo, hi, cells, xs, h1, h2, h3, h4, h5⟩, hr'⟩ => ⟨_, h5, hr'.Bg j k id h1 h2 h3 h4 hji hkp⟩
mutual
def y8 : Stmt → Nat
 | ⟨_, _, _, _, _, th, el⟩ => 1 + jN th + jN el
def jN : List Stmt → Nat
 | [] => 0
 | x :: l => y8 x + jN l
end
theorem vS : ∀ a b : List Stmt, jN (a ++ b) = jN a + jN b
 | [], b => by simp [jN]
 | x :: a, b => by simp [jN, vS a b]; omega
theorem wU : ∀ l : List Stmt, l.length ≤ jN l
 | [] => Nat.le_refl _
 | x :: l => by
   have := wU l
   rw [List.length_cons, jN]
   cases x
   rw [y8]; omega
def o9 (env : List Slot) : List Stmt → List Slot
 | [] => env
 | x :: l => o9 (if x.kind = 1 then env ++ [⟨x.type, x.name⟩] else env) l
theorem CV (env : List Slot) : ∀ (l : List Stmt) (x : Stmt), o9 env (l ++ [x]) = (if x.kind = 1 then o9 env l ++ [⟨x.type, x.name⟩] else o9 env l) := by
 intro l
 induction l generalizing env with
 | nil => intro x; rfl
 | cons y l ih => intro x; rw [List.cons_append, o9, ih]; rfl
theorem Mr (env : List Slot) : ∀ l : List Stmt, (o9 env l).length ≤ env.length + l.length := by
 intro l
 induction l generalizing env with
 | nil => exact Nat.le_refl _
 | cons y l ih =>
   rw [o9]
   have := ih (if y.kind = 1 then env ++ [⟨y.type, y.name⟩] else env)
   rw [List.length_cons]
   split at this
   ·rename_i h; rw [if_pos h]; rw [List.length_append, List.length_singleton] at this; omega
   ·rename_i h; rw [if_neg h]; omega
theorem M6 (env : List Slot) : ∀ l : List Stmt, ∃ t, o9 env l = env ++ t := by
 intro l
 induction l generalizing env with
 | nil => exact ⟨[], by simp [o9]⟩
 | cons y l ih =>
   rw [o9]
   split
   ·obtain ⟨t, ht⟩ := ih (env ++ [⟨y.type, y.name⟩])
    exact ⟨_, by rw [ht, List.append_assoc]⟩
   ·exact ih env
theorem vC (cs : List Class) (inn ret : ByteArray) (env : List Slot) : ∀ (a b : List Stmt), dH cs inn ret env (a ++ b) = (dH cs inn ret env a && dH cs inn ret (o9 env a) b) := by
 intro a
 induction a generalizing env with
 | nil => intro b; simp [dH, o9]
 | cons y a ih => intro b; rw [List.cons_append, dH, dH, o9, ih, Bool.and_assoc]
structure SmallP (p : Program) : Prop where
 main : p.main.length ≤ 1048576 ∧ gK 1048576 p.main ∧ jN p.main ≤ 1048576
 meth : ∀ c ∈ p.classes, ∀ m ∈ c.methods, m.body.length ≤ 1048576 ∧ gK 1048576 m.body ∧ jN m.body ≤ 1048576
end V
end Go.Proofs.YthhpcjoaogmhbaaGreatDoor
end
section
namespace Go.Proofs.YthhpcjoaogmhbaaGreatDoor
namespace V
def Named (cs : List Class) : Prop := ∀ c ∈ cs, bK c.name = true
theorem ME {p : Program} (h : cu (ji p) p.classes = 0) : Named p.classes := by
 intro c hc
 have hb : bG p = true := by
  cases hk : bG p with
  | true => rfl
  | false =>
    unfold cu ji at h
    rw [hk] at h
    simp [bH] at h
 unfold bG at hb
 rw [Bool.and_eq_true] at hb
 have := List.all_eq_true.1 hb.2 c hc
 simp only [dn, dY, Bool.and_eq_true] at this
 first | exact this.1.1.1 | exact this.1.1
theorem Ak {cs : List Class} {t : ByteArray} : cs.any (oQ t) = true ↔ ∃ c ∈ cs, c.name = t := by
 rw [List.any_eq_true]
 exact ⟨fun ⟨c, hc, h⟩ => ⟨c, hc, gW.1 h⟩, fun ⟨c, hc, h⟩ => ⟨c, hc, gW.2 h⟩⟩
theorem QM : bK jR = false := by decide +kernel
theorem Nj {cs : List Class} (h : Named cs) : cs.any (oQ jR) = false := by
 cases hk : cs.any (oQ jR) with
 | false => rfl
 | true =>
   obtain ⟨c, hc, e⟩ := Ak.1 hk
   have := h c hc
   rw [e, QM] at this; cases this
theorem FR {cs : List Class} {a b : ByteArray} (h : nY 0 cs a b = true) : cs.any (oQ b) = true := by
 obtain ⟨i, d, hd, e⟩ := Hg.1 h
 exact Ak.2 ⟨d, (iw cs _ a d (List.mem_of_getElem? hd)).1, e⟩
theorem wL {cs : List Class} {a b : ByteArray} (h : Named cs) : kr 0 cs a b = Dq 0 cs a b := by
 have e : nY 0 cs a b = (gq 0 cs a).any (fun x => x.toList == b.toList) := by
  unfold nY
  rw [Ew]
  congr 1; funext x; exact BEq.comm
 unfold kr Dq
 rw [← e]
 have hb := FR (cs := cs) (a := a) (b := b)
 by_cases hn : (a.toList == jR.toList) = true
 ·obtain rfl := gW.1 hn
  rw [Nj h, if_pos hn, hn]
  simp
 ·rw [if_neg hn]
  have hn : (a.toList == jR.toList) = false := by simpa using hn
  rw [hn]
  cases hB : nY 0 cs a b with
  | false => simp
  | true => rw [hb hB]; simp
theorem Ip {β : Type} (cs : List Class) (g : Class → β) (h : Nat × Nat → β) (hg : ∀ x k, cs[x.2]? = some k → h x = g k) (k m : Nat) (name : ByteArray) : (upX cs k m name).map h = (bI cs k name).map g := by
 obtain ⟨f, h1, h2⟩ := oM cs k m name
 rw [h1, List.map_map]
 refine List.ext_getElem? fun i => ?_
 by_cases hi : i < (bI cs k name).length
 ·simp only [List.getElem?_map, List.getElem?_range hi, Option.map_some, Function.comp]
  rw [List.getElem?_eq_getElem hi, Option.map_some]
  rw [hg (m + i, f i) _ ((h2 i hi).trans (List.getElem?_eq_getElem hi))]
 ·rw [List.getElem?_eq_none CQ, List.getElem?_eq_none CQ]
theorem sK (cs : List Class) (k m : Nat) (name : ByteArray) : iB cs (upX cs k m name) = (bI cs k name).reverse.flatMap (·.fields) := by
 have e := Ip cs (·.fields) (pR cs) (fun x k h => by simp [pR, h]) k m name
 unfold iB
 rw [List.flatMap_def, List.flatMap_def, List.map_reverse, List.map_reverse, e]
def BS (n : ByteArray) (c : Class) : Option (Method × ByteArray) := (c.methods.find? (eO n)).map (·, c.name)
theorem pI {α β : Type} (f : α → Option β) : ∀ l : List α, l.findSome? f = (l.map f).findSome? id
 | [] => rfl
 | x :: l => by
   simp only [List.findSome?_cons, List.map_cons, id]
   cases f x with
   | none => exact pI f l
   | some y => rfl
theorem sG (cs : List Class) (cn n : ByteArray) : fM 0 cs cn n = (bI cs (cs.length + 1) cn).findSome? (BS n) := by
 unfold fM tV
 rw [if_pos rfl, pI, pI (BS n), Ip cs (BS n) (nZ cs n) (fun x k h => by simp [nZ, BS, h])]
theorem qP {α β : Type} {f : α → Option β} : ∀ {l : List α} {r : β}, l.findSome? f = some r → ∃ (i : Nat) (x : α), l[i]? = some x ∧ f x = some r ∧ ∀ j y, j < i → l[j]? = some y → f y = none
 | [], r, h => by cases h
 | x :: l, r, h => by
   rw [List.findSome?_cons] at h
   cases hx : f x with
   | some y => rw [hx] at h; cases h; exact ⟨0, x, rfl, hx, fun j y hj => absurd hj (Nat.not_lt_zero _)⟩
   | none =>
     rw [hx] at h
     obtain ⟨i, y, h1, h2, h3⟩ := qP h
     refine ⟨i + 1, y, by simpa using h1, h2, fun j z hj hz => ?_⟩
     cases j with
     | zero => simp at hz; subst hz; exact hx
     | succ j => exact h3 j z (by omega) (by simpa using hz)
end V
end Go.Proofs.YthhpcjoaogmhbaaGreatDoor
end
section
namespace Go.Proofs.YthhpcjoaogmhbaaGreatDoor
namespace V
open Go.RowKit
def M8 (env : List Slot) (n : ByteArray) : ByteArray := (jF env n).getD tNo
abbrev Md (cs : List Class) (a : List ByteArray) (b : List Slot) : Bool := iE (fun t s => Dq 0 cs t s.type) a b
def Ma (cs : List Class) (nm : ByteArray) (ls : List ByteArray) : ByteArray := match gM cs nm (gq 0 cs (hdT ls)) with
 | some (m, _) => if Md cs ls.tail m.params = true then m.type else tNo
 | none => tNo
def Lx (cs : List Class) (a b : ByteArray) : ByteArray :=
 if (isT a bD && isT b bD) = true then bD
 else if (!(isT a bD) && (!(isT b bD) && (Dq 0 cs a b || (Dq 0 cs b a || (isT a jR && isT b jR))))) = true then bD else tNo
def EO (ls : List ByteArray) (t : ByteArray) : ByteArray := if ls.all (fun s => isT s t) = true then bD else tNo
def RY (cs : List Class) (inn : ByteArray) (env : List Slot) (k : Int) (nm : ByteArray) : ByteArray :=
 if k = 1 ∨ k = 11 then bD
 else if k = 2 then jR
 else if k = 3 then inn
 else if k = 4 then M8 env nm
 else if cs.any (oQ nm) = true then nm else tNo
def nT (cs : List Class) (inn : ByteArray) (env : List Slot) (k : Int) (nm : ByteArray) (ls : List ByteArray) : ByteArray :=
 if k = 6 then (if isT (hdT ls) bD = true then iX else tNo)
 else if k = 7 then M8 (dM cs (gq 0 cs (hdT ls))) nm
 else if k = 8 then (if (isT (hdT ls) iX && isT (hdT ls.tail) bD) = true then bD else tNo)
 else if k = 9 then EO ls iX
 else if k = 10 then Ma cs nm ls
 else if k = 12 ∨ k = 13 ∨ k = 14 ∨ k = 15 ∨ k = 16 ∨ k = 17 then EO ls bD
 else if k = 18 then Lx cs (hdT ls) (hdT ls.tail)
 else RY cs inn env k nm
mutual
def OM (cs : List Class) (inn : ByteArray) (env : List Slot) : Expr → ByteArray
 | ⟨k, _, nm, kids⟩ => match Er cs inn env kids with
   | some ls => nT cs inn env k nm ls
   | none => tNo
def Er (cs : List Class) (inn : ByteArray) (env : List Slot) : List Expr → Option (List ByteArray)
 | [] => some []
 | x :: l => if isT (OM cs inn env x) tNo = true then none else (Er cs inn env l).map (OM cs inn env x :: ·)
end
def Gq (cs : List Class) (main : Bool) (ret : ByteArray) (k : Int) (ty : ByteArray) (ts : List ByteArray) : Bool :=
 if k = 1 then dK cs ty && (ts.isEmpty || Dq 0 cs (hdT ts) ty)
 else if k = 2 then Dq 0 cs (hdT ts.tail) (hdT ts)
 else if k = 3 ∨ k = 4 ∨ k = 5 then isT (hdT ts) bD
 else if k = 6 then !main && Dq 0 cs (hdT ts) ret
 else true
def L6 (cs : List Class) (inn : ByteArray) (main : Bool) (ret : ByteArray) (env : List Slot) (k : Int) (ty : ByteArray) (es : List Expr) : Bool := match Er cs inn env es with
 | some ts => Gq cs main ret k ty ts
 | none => false
mutual
def G9 (cs : List Class) (inn : ByteArray) (main : Bool) (ret : ByteArray) (env : List Slot) : Stmt → Bool
 | ⟨k, _, ty, _, es, th, el⟩ => L6 cs inn main ret env k ty es && rJ cs inn main ret env th && rJ cs inn main ret env el
def rJ (cs : List Class) (inn : ByteArray) (main : Bool) (ret : ByteArray) (env : List Slot) : List Stmt → Bool
 | [] => true
 | x :: l => G9 cs inn main ret env x && rJ cs inn main ret (if x.kind = 1 then env ++ [⟨x.type, x.name⟩] else env) l
end
mutual
def QT : Stmt → List Slot
 | ⟨k, _, ty, nm, _, th, el⟩ => (if k = 1 then [⟨ty, nm⟩] else []) ++ Cc th ++ Cc el
def Cc : List Stmt → List Slot
 | [] => []
 | x :: l => QT x ++ Cc l
end
structure Good (cs : List Class) : Prop where
 nm : Named cs
 s0 : Same0 cs
 fld : ∀ c ∈ cs, ∀ s ∈ c.fields, s.type ≠ tNo
 mth : ∀ c ∈ cs, ∀ m ∈ c.methods, m.type ≠ tNo
theorem uM {a b : ByteArray} : isT a b = true ↔ a = b := by unfold isT; exact gW
theorem Rl : bK tNo = false := by decide +kernel
theorem Rv : fC tNo = false := by decide +kernel
theorem int_ne : bD ≠ tNo := by decide +kernel
theorem Oh : iX ≠ tNo := by decide +kernel
theorem O6 : jR ≠ tNo := by decide +kernel
theorem QZ {cs : List Class} (h : Named cs) : (fun (t : ByteArray) (s : Slot) => kr 0 cs t s.type) = fun t s => Dq 0 cs t s.type := by
 funext t s; exact wL h
theorem JX {l : List Slot} {n t : ByteArray} (h : jF l n = some t) : ∃ s ∈ l, s.type = t := by
 unfold jF at h
 cases hf : l.find? (zy n) with
 | none => rw [hf] at h; cases h
 | some s => rw [hf] at h; cases h; exact ⟨s, List.mem_of_find?_eq_some hf, rfl⟩
theorem LV {cs : List Class} (n : ByteArray) : gT 0 cs n = dM cs (gq 0 cs n) := by
 unfold gT gq
 rw [if_pos rfl, if_pos rfl, sK, iM]
 unfold dM
 rw [← List.map_reverse, List.flatMap_map, List.flatMap_def, List.flatMap_def]
 congr 1
 refine List.map_congr_left fun d hd => ?_
 rw [wD (iw cs _ _ d (List.mem_reverse.1 hd)).2]
theorem Ht {cs : List Class} (h : Good cs) {n : ByteArray} {s : Slot} (hs : s ∈ gT 0 cs n) : s.type ≠ tNo := by
 unfold gT at hs
 rw [if_pos rfl, sK, List.mem_flatMap] at hs
 obtain ⟨c, hc, hs⟩ := hs
 exact h.fld c (iw cs _ _ c (List.mem_reverse.1 hc)).1 s hs
theorem Nk {cs : List Class} (cn n : ByteArray) : (fM 0 cs cn n).map (·.1) = (gM cs n (gq 0 cs cn)).map (·.1) := by
 rw [sG]
 unfold gq
 rw [if_pos rfl, iM, pU n _ (fun d hd => (iw cs _ _ d hd).2)]
 generalize bI cs (cs.length + 1) cn = l
 induction l with
 | nil => rfl
 | cons c l ih =>
   rw [List.findSome?_cons]
   unfold ow BS
   cases hf : c.methods.find? (eO n) with
   | some m => rfl
   | none => exact ih
theorem Fq {cs : List Class} {cn n : ByteArray} {m : Method} {d : ByteArray} (h : fM 0 cs cn n = some (m, d)) : ∃ c ∈ cs, m ∈ c.methods := by
 rw [sG] at h
 obtain ⟨i, c, hc, hf, -⟩ := qP h
 unfold BS at hf
 cases hg : c.methods.find? (eO n) with
 | none => rw [hg] at hf; cases hf
 | some m' =>
   rw [hg] at hf
   cases hf
   exact ⟨c, (iw cs _ _ c (List.mem_of_getElem? hc)).1, List.mem_of_find?_eq_some hg⟩
mutual
def Kl : Expr → Prop
 | ⟨k, _, _, kids⟩ => (1 ≤ k ∧ k ≤ 18) ∧ (k = 6 ∨ k = 7 ∨ k = 9 ∨ k = 12 → kids.length = 1) ∧ (k = 10 → 1 ≤ kids.length) ∧ (k = 8 ∨ k = 13 ∨ k = 14 ∨ k = 15 ∨ k = 16 ∨ k = 17 ∨ k = 18 → kids.length = 2) ∧ qm kids
def qm : List Expr → Prop
 | [] => True
 | x :: l => Kl x ∧ qm l
end
theorem qm.mem : ∀ {l : List Expr} {x : Expr}, qm l → x ∈ l → Kl x
 | y :: l, x, h, hx => by
   simp only [qm] at h
   rcases List.mem_cons.1 hx with rfl | hx
   ·exact h.1
   ·exact qm.mem h.2 hx
theorem Hq {ls : List ByteArray} (h : ls.length = 1) : ∃ a, ls = [a] := by
 match ls, h with
 | [a], _ => exact ⟨a, rfl⟩
theorem GU {ls : List ByteArray} (h : ls.length = 2) : ∃ a b, ls = [a, b] := by
 match ls, h with
 | [a, b], _ => exact ⟨a, b, rfl⟩
theorem y9 {a t : ByteArray} : kN [a] [t] = isT a t := by simp [iE]
theorem DY {a b t u : ByteArray} : kN [a, b] [t, u] = (isT a t && isT b u) := by simp [iE]
set_option maxHeartbeats 2000000 in
theorem Ow {cs : List Class} (hg : Good cs) (inn : ByteArray) (env : List Slot) {k : Int} (nm : ByteArray) {ls : List ByteArray} (hk : 1 ≤ k ∧ k ≤ 18) (h1 : k = 6 ∨ k = 7 ∨ k = 9 ∨ k = 12 → ls.length = 1) (h10 : k = 10 → 1 ≤ ls.length) (h2 : k = 8 ∨ k = 13 ∨ k = 14 ∨ k = 15 ∨ k = 16 ∨ k = 17 ∨ k = 18 → ls.length = 2) :
 nT cs inn env k nm ls = (bN cs inn env k nm ls).getD tNo ∧ ∀ t, bN cs inn env k nm ls = some t → t ≠ tNo := by
 have hks : k = 1 ∨ k = 2 ∨ k = 3 ∨ k = 4 ∨ k = 5 ∨ k = 6 ∨ k = 7 ∨ k = 8 ∨ k = 9 ∨ k = 10 ∨ k = 11 ∨ k = 12 ∨ k = 13 ∨ k = 14 ∨ k = 15 ∨ k = 16 ∨ k = 17 ∨ k = 18 := by omega
 have two : ∀ k', k' = k → k' = 13 ∨ k' = 14 ∨ k' = 15 ∨ k' = 16 ∨ k' = 17 → nT cs inn env k nm ls = (bN cs inn env k nm ls).getD tNo ∧ ∀ t, bN cs inn env k nm ls = some t → t ≠ tNo := by
  rintro k' rfl h
  obtain ⟨a, b, rfl⟩ := GU (h2 (by omega))
  have e1 : nT cs inn env k' nm [a, b] = EO [a, b] bD := by rcases h with rfl | rfl | rfl | rfl | rfl <;> rfl
  have e2 : bN cs inn env k' nm [a, b] = if kN [a, b] [bD, bD] = true then some bD else none := by rcases h with rfl | rfl | rfl | rfl | rfl <;> rfl
  rw [e1, e2, DY]
  unfold EO
  simp only [List.all_cons, List.all_nil, Bool.and_true]
  split
  ·exact ⟨rfl, fun t h => by cases h; exact int_ne⟩
  ·exact ⟨rfl, fun t h => by cases h⟩
 rcases hks with rfl | rfl | rfl | rfl | rfl | rfl | rfl | rfl | rfl | rfl | rfl | rfl | rfl | rfl | rfl | rfl | rfl | rfl
 ·exact ⟨rfl, fun t h => by cases h; exact int_ne⟩
 ·exact ⟨rfl, fun t h => by cases h; exact O6⟩
 ·have e1 : nT cs inn env 3 nm ls = inn := rfl
  have e2 : bN cs inn env 3 nm ls = if isT inn tNo = true then none else some inn := rfl
  rw [e1, e2]
  split
  ·rename_i h; exact ⟨uM.1 h, fun t h => by cases h⟩
  ·rename_i h; exact ⟨rfl, fun t h2 => by cases h2; exact fun e => h (uM.2 e)⟩
 ·have e1 : nT cs inn env 4 nm ls = M8 env nm := rfl
  have e2 : bN cs inn env 4 nm ls = match jF env nm with | some t => if isT t tNo = true then none else some t | none => none := rfl
  rw [e1, e2]
  unfold M8
  cases jF env nm with
  | none => exact ⟨rfl, fun t h => by cases h⟩
  | some u =>
    simp only
    split
    ·rename_i h; exact ⟨uM.1 h, fun t h => by cases h⟩
    ·rename_i h; exact ⟨rfl, fun t h2 => by cases h2; exact fun e => h (uM.2 e)⟩
 ·have e1 : nT cs inn env 5 nm ls = if cs.any (oQ nm) = true then nm else tNo := rfl
  have e2 : bN cs inn env 5 nm ls = if cs.any (oQ nm) = true then some nm else none := rfl
  rw [e1, e2]
  split
  ·rename_i h
   obtain ⟨c, hc, rfl⟩ := Ak.1 h
   exact ⟨rfl, fun t h2 => by cases h2; exact fun e => by have := hg.nm c hc; rw [e, Rl] at this; cases this⟩
  ·exact ⟨rfl, fun t h => by cases h⟩
 ·obtain ⟨a, rfl⟩ := Hq (h1 (by omega))
  have e1 : nT cs inn env 6 nm [a] = if isT a bD = true then iX else tNo := rfl
  have e2 : bN cs inn env 6 nm [a] = if kN [a] [bD] = true then some iX else none := rfl
  rw [e1, e2, y9]
  split
  ·exact ⟨rfl, fun t h => by cases h; exact Oh⟩
  ·exact ⟨rfl, fun t h => by cases h⟩
 ·have e1 : nT cs inn env 7 nm ls = M8 (dM cs (gq 0 cs (hdT ls))) nm := rfl
  have e2 : bN cs inn env 7 nm ls = jF (gT 0 cs (hdT ls)) nm := rfl
  rw [e1, e2, ← LV]
  exact ⟨rfl, fun t h => by obtain ⟨s, hs, rfl⟩ := JX h; exact Ht hg hs⟩
 ·obtain ⟨a, b, rfl⟩ := GU (h2 (by omega))
  have e1 : nT cs inn env 8 nm [a, b] = if (isT a iX && isT b bD) = true then bD else tNo := rfl
  have e2 : bN cs inn env 8 nm [a, b] = if kN [a, b] [iX, bD] = true then some bD else none := rfl
  rw [e1, e2, DY]
  split
  ·exact ⟨rfl, fun t h => by cases h; exact int_ne⟩
  ·exact ⟨rfl, fun t h => by cases h⟩
 ·obtain ⟨a, rfl⟩ := Hq (h1 (by omega))
  have e1 : nT cs inn env 9 nm [a] = EO [a] iX := rfl
  have e2 : bN cs inn env 9 nm [a] = if kN [a] [iX] = true then some bD else none := rfl
  rw [e1, e2, y9]
  unfold EO
  simp only [List.all_cons, List.all_nil, Bool.and_true]
  split
  ·exact ⟨rfl, fun t h => by cases h; exact int_ne⟩
  ·exact ⟨rfl, fun t h => by cases h⟩
 ·have e1 : nT cs inn env 10 nm ls = Ma cs nm ls := rfl
  have e2 : bN cs inn env 10 nm ls = match fM 0 cs (hdT ls) nm with | some (m, _) => if qd cs ls.tail m.params = true then some m.type else none | none => none := rfl
  rw [e1, e2]
  unfold Ma
  have hm := Nk (cs := cs) (hdT ls) nm
  cases hr : fM 0 cs (hdT ls) nm with
  | none =>
    rw [hr] at hm
    cases hf : gM cs nm (gq 0 cs (hdT ls)) with
    | none => exact ⟨rfl, fun t h => by cases h⟩
    | some x => rw [hf] at hm; cases hm
  | some x =>
    obtain ⟨m, d⟩ := x
    rw [hr] at hm
    cases hf : gM cs nm (gq 0 cs (hdT ls)) with
    | none => rw [hf] at hm; cases hm
    | some x =>
      obtain ⟨m', d'⟩ := x
      rw [hf] at hm
      simp only [Option.map_some, Option.some.injEq] at hm
      subst hm
      simp only
      unfold qd Md
      rw [QZ hg.nm]
      obtain ⟨c, hc, hmc⟩ := Fq hr
      split
      ·exact ⟨rfl, fun t h => by cases h; exact hg.mth c hc m hmc⟩
      ·exact ⟨rfl, fun t h => by cases h⟩
 ·exact ⟨rfl, fun t h => by cases h; exact int_ne⟩
 ·obtain ⟨a, rfl⟩ := Hq (h1 (by omega))
  have e1 : nT cs inn env 12 nm [a] = EO [a] bD := rfl
  have e2 : bN cs inn env 12 nm [a] = if kN [a] [bD] = true then some bD else none := rfl
  rw [e1, e2, y9]
  unfold EO
  simp only [List.all_cons, List.all_nil, Bool.and_true]
  split
  ·exact ⟨rfl, fun t h => by cases h; exact int_ne⟩
  ·exact ⟨rfl, fun t h => by cases h⟩
 ·exact two 13 rfl (by decide)
 ·exact two 14 rfl (by decide)
 ·exact two 15 rfl (by decide)
 ·exact two 16 rfl (by decide)
 ·exact two 17 rfl (by decide)
 ·obtain ⟨a, b, rfl⟩ := GU (h2 (by omega))
  have e1 : nT cs inn env 18 nm [a, b] = Lx cs a b := rfl
  have e2 : bN cs inn env 18 nm [a, b] = if kE cs a b = true then some bD else none := rfl
  rw [e1, e2]
  unfold Lx kE
  rw [← wL hg.nm, ← wL hg.nm]
  cases isT a bD <;> cases isT b bD <;> cases isT a jR <;> cases isT b jR <;> cases kr 0 cs a b <;> cases kr 0 cs b a <;> exact ⟨rfl, fun t h => by cases h <;> exact int_ne⟩
mutual
theorem P9 {cs : List Class} (hg : Good cs) (inn : ByteArray) (env : List Slot) : ∀ (x : Expr), Kl x → OM cs inn env x = (jP cs inn env x).getD tNo ∧ ∀ t, jP cs inn env x = some t → t ≠ tNo
 | ⟨k, n, nm, kids⟩, h => by
   simp only [Kl] at h
   obtain ⟨h0, h1, h10, h2, hk⟩ := h
   have ih := zL hg inn env kids hk
   rw [OM, jP, ih]
   cases hts : eP cs inn env kids with
   | none => exact ⟨rfl, fun t h => by cases h⟩
   | some ts =>
     have hl := CJ cs inn env kids hts
     rw [← hl] at h1 h10 h2
     simp only [Option.bind_some]
     exact Ow hg inn env nm h0 h1 h10 h2
theorem zL {cs : List Class} (hg : Good cs) (inn : ByteArray) (env : List Slot) : ∀ (l : List Expr), qm l → Er cs inn env l = eP cs inn env l
 | [], _ => rfl
 | x :: l, h => by
   simp only [qm] at h
   obtain ⟨i1, i2⟩ := P9 hg inn env x h.1
   have ih := zL hg inn env l h.2
   rw [Er, eP, ih, i1]
   cases hx : jP cs inn env x with
   | none => rw [if_pos (by simp [isT])]
   | some t => rw [if_neg (by rw [Option.getD_some, uM]; exact i2 t hx)]; rfl
end
mutual
def Kt : Stmt → Prop
 | ⟨_, _, _, _, es, th, el⟩ => qm es ∧ nQ th ∧ nQ el
def nQ : List Stmt → Prop
 | [] => True
 | x :: l => Kt x ∧ nQ l
end
theorem nQ.mem : ∀ {l : List Stmt} {x : Stmt}, nQ l → x ∈ l → Kt x
 | y :: l, x, h, hx => by
   simp only [nQ] at h
   rcases List.mem_cons.1 hx with rfl | hx
   ·exact h.1
   ·exact nQ.mem h.2 hx
theorem Kc {cs : List Class} (hg : Good cs) (main : Bool) (ret : ByteArray) (hmr : main = isT ret tNo) (env : List Slot) (k : Int) (ty : ByteArray) (ts : List ByteArray) {inn : ByteArray} : Gq cs main ret k ty ts = jm cs inn ret env k ty ts := by
 unfold Gq jm
 rw [wL hg.nm, wL hg.nm, wL hg.nm, hmr]
mutual
theorem KR {cs : List Class} (hg : Good cs) (inn : ByteArray) (main : Bool) (ret : ByteArray) (hmr : main = isT ret tNo) : ∀ (x : Stmt) (env : List Slot), Kt x → G9 cs inn main ret env x = lM cs inn ret env x
 | ⟨k, n, ty, nm, es, th, el⟩, env, h => by
   simp only [Kt] at h
   rw [G9, lM, sZ hg inn main ret hmr th env h.2.1, sZ hg inn main ret hmr el env h.2.2]
   congr 2
   unfold L6
   rw [zL hg inn env es h.1]
   cases eP cs inn env es with
   | none => rfl
   | some ts => exact Kc hg main ret hmr env k ty ts
theorem sZ {cs : List Class} (hg : Good cs) (inn : ByteArray) (main : Bool) (ret : ByteArray) (hmr : main = isT ret tNo) : ∀ (l : List Stmt) (env : List Slot), nQ l → rJ cs inn main ret env l = dH cs inn ret env l
 | [], env, _ => by rw [rJ, dH]
 | x :: l, env, h => by
   simp only [nQ] at h
   rw [rJ, dH, KR hg inn main ret hmr x env h.1, sZ hg inn main ret hmr l _ h.2]
end
mutual
theorem Gb : ∀ x : Stmt, (QT x).map (·.name) = Cq x
 | ⟨k, n, ty, nm, es, th, el⟩ => by
   rw [QT, Cq, List.map_append, List.map_append, qE th, qE el]
   congr 2
   split <;> rfl
theorem qE : ∀ l : List Stmt, (Cc l).map (·.name) = bA l
 | [] => by rw [Cc, bA]; rfl
 | x :: l => by rw [Cc, bA, List.map_append, Gb x, qE l]
end
theorem Cz {p : Program} (h : cu (ji p) p.classes = 0) : bG p = true := by
 cases hk : bG p with
 | true => rfl
 | false =>
   unfold cu ji at h
   rw [hk] at h
   simp [bH] at h
theorem Ju (kind : Int) (ls : Nat) (hs : (shapeOf kind).2 = true) (h1 : (shapeOf kind).1.least ≤ ls) (h2 : (ls : Int) ≤ (shapeOf kind).1.most) :
 (1 ≤ kind ∧ kind ≤ 18) ∧ (kind = 6 ∨ kind = 7 ∨ kind = 9 ∨ kind = 12 → ls = 1) ∧ (kind = 10 → 1 ≤ ls) ∧ (kind = 8 ∨ kind = 13 ∨ kind = 14 ∨ kind = 15 ∨ kind = 16 ∨ kind = 17 ∨ kind = 18 → ls = 2) ∧ ls ≤ 5 := by
 have hk : 1 ≤ kind ∧ kind ≤ 18 := by
  unfold shapeOf at hs
  split at hs
  ·assumption
  ·cases hs
 have hks : kind = 1 ∨ kind = 2 ∨ kind = 3 ∨ kind = 4 ∨ kind = 5 ∨ kind = 6 ∨ kind = 7 ∨ kind = 8 ∨ kind = 9 ∨ kind = 10 ∨ kind = 11 ∨ kind = 12 ∨ kind = 13 ∨ kind = 14 ∨ kind = 15 ∨ kind = 16 ∨ kind = 17 ∨ kind = 18 := by omega
 rcases hks with rfl | rfl | rfl | rfl | rfl | rfl | rfl | rfl | rfl | rfl | rfl | rfl | rfl | rfl | rfl | rfl | rfl | rfl <;> simp [shapeOf, shapes] at h1 h2 <;> omega
mutual
theorem Oq : ∀ x : Expr, cK x = true → Kl x ∧ yj x
 | ⟨k, n, nm, kids⟩, h => by
   simp only [cK, Bool.and_eq_true] at h
   obtain ⟨ht, hk⟩ := h
   simp only [gY, Bool.and_eq_true, decide_eq_true_eq] at ht
   obtain ⟨⟨⟨⟨⟨hs, h1⟩, h2⟩, -⟩, -⟩, -⟩ := ht
   obtain ⟨a1, a2, a3, a4, a5⟩ := Ju k kids.length hs h1 h2
   obtain ⟨b1, b2⟩ := zG kids hk
   simp only [Kl, yj]
   exact ⟨⟨a1, a2, a3, a4, b1⟩, fun h => a2 (by omega), a3, fun h => a4 (by omega), by omega, b2⟩
theorem zG : ∀ l : List Expr, og l = true → qm l ∧ kV l
 | [], _ => by simp only [qm, kV]; exact ⟨trivial, trivial⟩
 | x :: l, h => by
   simp only [og, Bool.and_eq_true] at h
   obtain ⟨a1, a2⟩ := Oq x h.1
   obtain ⟨b1, b2⟩ := zG l h.2
   simp only [qm, kV]
   exact ⟨⟨a1, b1⟩, a2, b2⟩
end
theorem El {k : Int} {n : Nat} (h0 : 0 ≤ (bT k).1) (h1 : (bT k).1 ≤ n) (h2 : (n : Int) ≤ (bT k).2) : (k = 2 → n = 2) ∧ (k = 3 ∨ k = 4 ∨ k = 5 ∨ k = 6 → 1 ≤ n) ∧ n ≤ 2 := by
 unfold bT at h0 h1 h2
 by_cases e1 : k = 1
 ·rw [if_pos e1] at h0 h1 h2; simp at h0 h1 h2; omega
 rw [if_neg e1] at h0 h1 h2
 by_cases e2 : k = 2
 ·rw [if_pos e2] at h0 h1 h2; simp at h0 h1 h2; omega
 rw [if_neg e2] at h0 h1 h2
 by_cases e3 : 3 ≤ k ∧ k ≤ 7
 ·rw [if_pos e3] at h0 h1 h2; simp at h0 h1 h2; omega
 rw [if_neg e3] at h0 h1 h2; simp at h0
mutual
theorem OD : ∀ x : Stmt, bS x = true → Kt x ∧ ED x
 | ⟨k, n, t, nm, es, th, el⟩, h => by
   simp only [bS, Bool.and_eq_true] at h
   obtain ⟨⟨⟨⟨ht, he⟩, -⟩, h1⟩, h2⟩ := h
   simp only [bF, Bool.and_eq_true, decide_eq_true_eq] at ht
   obtain ⟨⟨⟨⟨⟨⟨q0, q1⟩, q2⟩, -⟩, -⟩, -⟩, -⟩ := ht
   obtain ⟨a1, a2, a3⟩ := El q0 q1 q2
   rw [← sV] at he
   obtain ⟨b1, b2⟩ := zG es he
   obtain ⟨c1, c2⟩ := qz th h1
   obtain ⟨d1, d2⟩ := qz el h2
   simp only [Kt, ED]
   exact ⟨⟨b1, c1, d1⟩, a1, a2, by omega, b2, c2, d2⟩
theorem qz : ∀ l : List Stmt, sS l = true → nQ l ∧ kH l
 | [], _ => by simp only [nQ, kH]; exact ⟨trivial, trivial⟩
 | x :: l, h => by
   simp only [sS, Bool.and_eq_true] at h
   obtain ⟨a1, a2⟩ := OD x h.1
   obtain ⟨b1, b2⟩ := qz l h.2
   simp only [nQ, kH]
   exact ⟨⟨a1, b1⟩, a2, b2⟩
end
theorem OZ {p : Program} (h : cu (ji p) p.classes = 0) : nQ p.main ∧ kH p.main := by
 have hb := Cz h
 unfold bG at hb
 rw [Bool.and_eq_true, ← pJ] at hb
 exact qz _ hb.1
theorem zl {p : Program} (h : cu (ji p) p.classes = 0) {c : Class} (hc : c ∈ p.classes) : (∀ s ∈ c.fields, fD s = true) ∧ ∀ m ∈ c.methods, bL m = true := by
 have hb := Cz h
 unfold bG at hb
 rw [Bool.and_eq_true] at hb
 have := List.all_eq_true.1 hb.2 c hc
 simp only [dn, dY, Bool.and_eq_true] at this
 exact ⟨List.all_eq_true.1 this.1.2, List.all_eq_true.1 this.2⟩
theorem Ko {p : Program} (h : cu (ji p) p.classes = 0) {c : Class} (hc : c ∈ p.classes) {m : Method} (hm : m ∈ c.methods) : nQ m.body ∧ kH m.body := by
 have := (zl h hc).2 m hm
 unfold bL at this
 simp only [Bool.and_eq_true] at this
 exact qz _ (by rw [pJ]; exact this.2)
theorem Ce {s : Slot} (h : fD s = true) : s.type ≠ tNo := by
 unfold fD at h
 rw [Bool.and_eq_true] at h
 intro e
 have := h.1
 rw [e, Rv] at this; cases this
theorem O4 {p : Program} (h : cu (ji p) p.classes = 0) : Good p.classes where
 nm := ME h
 s0 := FM h
 fld := fun c hc s hs => Ce ((zl h hc).1 s hs)
 mth := fun c hc m hm => by
  have := (zl h hc).2 m hm
  unfold bL at this
  simp only [Bool.and_eq_true] at this
  exact Ce (s := ⟨m.type, m.name⟩) this.1.1.1
section
variable {H : Type} {enc : TypeId × Value → H} {w : World} {held : Bool}
theorem QN {a b : Nat} (hab : a < b) : ∀ {l : List (DataW H)} {x y : DataW H}, l[a]? = some x → l[b]? = some y → Rows.uptoBulk x + Rows.uptoBulk y ≤ Rows.uptoBulkAll l
 | l, x, y, ha, hb => by
   induction l generalizing a b with
   | nil => simp at ha
   | cons z l ih =>
     simp only [Rows.uptoBulkAll]
     cases a with
     | zero =>
       cases ha
       cases b with
       | zero => omega
       | succ b =>
         have := oH (List.mem_of_getElem? (by simpa using hb : l[b]? = some y))
         omega
     | succ a =>
       cases b with
       | zero => omega
       | succ b =>
         have := ih (a := a) (b := b) (by omega) (by simpa using ha) (by simpa using hb)
         omega
theorem GY {P : Go.Program} {t : TypeId} {fl : List (TypeId × Nat)} {fuel : Nat} {cs : List Value} {x : DataW H × List MemPlace} {a b : Nat} (hab : a < b) {ka kb : TypeId × Nat}
 (hf : (P.underlying t).map (fun d => match d with | .struct fs => fs.toList.map (fun f => (f.type, f.offset)) | _ => []) = some fl) (ha : fl[a]? = some ka) (hb : fl[b]? = some kb)
 (h : DataW.trod enc P w 0 (fun _ => true) held fuel t cs = some x) : ∃ n y z, DataW.trod enc P w 0 (fun _ => true) held n ka.1 ((cs.drop ka.2).take (P.cellsOf ka.1)) = some y ∧ DataW.trod enc P w 0 (fun _ => true) held n kb.1 ((cs.drop kb.2).take (P.cellsOf kb.1)) = some z ∧ Rows.uptoBulk y.1 + Rows.uptoBulk z.1 + 1 ≤ Rows.uptoBulk x.1 := by
 cases hu : P.underlying t with
 | none => rw [hu] at hf; simp at hf
 | some d =>
   rw [hu] at hf
   simp only [Option.map_some, Option.some.injEq] at hf
   cases d with
   | struct fs =>
     simp only at hf
     obtain ⟨xs, n, hfu, hxe, hl, hlen, hall⟩ := DataW.trod_struct hu h
     have one : ∀ {i : Nat} {k : TypeId × Nat}, fl[i]? = some k → ∃ y, xs[i]? = some y ∧ DataW.trod enc P w 0 (fun _ => true) held n k.1 ((cs.drop k.2).take (P.cellsOf k.1)) = some y := fun {i k} hk => by
      rw [← hf, List.getElem?_map] at hk
      cases hfi : fs.toList[i]? with
      | none => rw [hfi] at hk; cases hk
      | some f =>
        rw [hfi] at hk
        cases hk
        have hi' : fs[i]? = some f := by rw [← Array.getElem?_toList]; exact hfi
        have := hall i f hi'
        have hlt : i < xs.length := by rw [hlen]; exact (Array.getElem?_eq_some_iff.1 hi').1
        exact ⟨xs[i], List.getElem?_eq_getElem hlt, by simpa [List.getElem?_eq_getElem hlt] using this⟩
     obtain ⟨y, hy, ty⟩ := one ha
     obtain ⟨z, hz, tz⟩ := one hb
     refine ⟨n, y, z, ty, tz, ?_⟩
     have := QN hab (l := xs.map (·.1)) (x := y.1) (y := z.1) (by rw [List.getElem?_map, hy]; rfl) (by rw [List.getElem?_map, hz]; rfl)
     subst hxe
     simp only [Rows.uptoBulk]
     omega
   | _ => simp only at hf; subst hf; simp at ha
theorem xg : ∀ l : List Stmt, jN l = (l.map y8).sum
 | [] => by simp [jN]
 | x :: l => by simp only [jN, List.map_cons, List.sum_cons, xg l]
theorem Aq : ∀ (d n : Nat) (cs : List Value) (x : Stmt) (z : DataW H × List MemPlace), gZ d w (· < w.heap.size) cs x → DataW.trod enc Tryz.prog w 0 (fun _ => true) held n 118 cs = some z → y8 x ≤ Rows.uptoBulk z.1
 | 0, _, _, _, _, h, _ => h.elim
 | d + 1, n, cs, ⟨k, nn, ty, nm, es, th, el⟩, z, ⟨ev, tv, fv, e1, _, _, _, _, h6, h7, h8⟩, h => by
   subst e1
   have hlen : ∀ cs y, gZ d w (· < w.heap.size) cs y → cs.length = 7 := fun cs y hy => by cases d with | zero => exact hy.elim | succ d => obtain ⟨_, _, _, rfl, -⟩ := hy; rfl
   obtain ⟨n5, y5, y6, k5, k6, b56⟩ := GY (a := 5) (b := 6) (by decide) nE rfl rfl h
   rw [aX _ nN _ _ _ rfl] at k5 k6
   have c5 : (th.map y8).sum + 1 ≤ Rows.uptoBulk y5.1 := wG y8 Tryz.underlying23 nC (by decide) hlen k5 h7 (fun y _ n cs z hr ht => Aq d n cs y z hr ht)
   have c6 : (el.map y8).sum + 1 ≤ Rows.uptoBulk y6.1 := wG y8 Tryz.underlying23 nC (by decide) hlen k6 h8 (fun y _ n cs z hr ht => Aq d n cs y z hr ht)
   simp only [y8, xg]
   omega
theorem Cr {d n : Nat} {v : Value} {l : List Stmt} {z : DataW H × List MemPlace} (h : jH d w (· < w.heap.size) v l) (k : DataW.trod enc Tryz.prog w 0 (fun _ => true) held n 23 [v] = some z) (hN : Rows.uptoBulk z.1 ≤ 1048576) : l.length ≤ 1048576 ∧ gK 1048576 l ∧ jN l ≤ 1048576 := by
 have hlen : ∀ cs y, gZ d w (· < w.heap.size) cs y → cs.length = 7 := fun cs y hy => by cases d with | zero => exact hy.elim | succ d => obtain ⟨_, _, _, rfl, -⟩ := hy; rfl
 obtain ⟨l5, a5⟩ := eY Tryz.underlying23 nC (by decide) hlen k h
 have c5 := wG y8 Tryz.underlying23 nC (by decide) hlen k h (fun y _ n cs z hr ht => Aq d n cs y z hr ht)
 rw [← xg] at c5
 refine ⟨by omega, mJ fun y hy => ?_, by omega⟩
 obtain ⟨n7, cs7, z7, r1, r2, r3⟩ := a5 y hy
 exact pE d n7 cs7 y z7 r1 r2 (by omega)
theorem KF {d fuel : Nat} {cs : List Value} {x : DataW H × List MemPlace} {p : Program} (hp : iV d w (· < w.heap.size) (.agg cs.toArray) p) (h : DataW.trod enc Tryz.prog w 0 (fun _ => true) held fuel 25 cs = some x) (hN : Rows.uptoBulk x.1 ≤ 1048576) : SmallP p := by
 obtain ⟨cv, mv, e1, h1, hm⟩ := hp
 have e2 : cs = [cv, mv] := by simpa using congrArg Array.toList (Value.agg.inj e1)
 subst e2
 obtain ⟨n0, y0, k0, b0⟩ := dX jO (by simp) h (23, 1) (by simp)
 rw [aX _ nN _ _ _ rfl] at k0
 obtain ⟨n1, y1, k1, b1⟩ := dX jO (by simp) h (22, 0) (by simp)
 rw [aX _ rT _ _ _ rfl] at k1
 obtain ⟨l1, hall⟩ := eY Tryz.underlying22 uU (by decide) (fun cs y hy => by obtain ⟨_, _, rfl, -⟩ := hy; rfl) k1 h1
 refine ⟨Cr hm k0 (by omega), fun c hc m hm => ?_⟩
 obtain ⟨n2, cs2, y2, hc2, k2, b2⟩ := hall c hc
 obtain ⟨fv, mv2, rfl, -, -, hf, hmm⟩ := hc2
 obtain ⟨n4, y4, k4, b4⟩ := dX lH (by simp) k2 (40, 3) (by simp)
 rw [aX _ rQ _ _ _ rfl] at k4
 obtain ⟨l4, hall4⟩ := eY Tryz.underlying40 qA (by decide) (fun cs y hy => by obtain ⟨_, _, rfl, -⟩ := hy; rfl) k4 hmm
 obtain ⟨n5, cs5, y5, hc5, k5, b5⟩ := hall4 m hm
 obtain ⟨pv, bv, rfl, -, -, -, hbody⟩ := hc5
 obtain ⟨n6, y6, k6, b6⟩ := dX l7 (by simp) k5 (23, 3) (by simp)
 rw [aX _ nN _ _ _ rfl] at k6
 exact Cr hbody k6 (by omega)
end
def fO (m : Method) : Method := { m with body := [] }
def cO (c : Class) : Class := { c with methods := c.methods.map fO }
theorem rM (cs : List Class) (j : Nat) : (cs.map cO)[j]? = cs[j]?.map cO := List.getElem?_map
theorem EK {α : Type} (p : α → Bool) (f : α → α) (h : ∀ x, p (f x) = p x) : ∀ l : List α, dR p (l.map f) = dR p l
 | [] => rfl
 | x :: l => by simp only [List.map_cons, dR, h, EK p f h l]
theorem Gy (cs : List Class) (n : ByteArray) : oL (cs.map cO) n = oL cs n := by
 unfold oL; rw [EK (jg n) cO (fun _ => rfl)]
theorem DK (cs : List Class) (j : Nat) : mg (cs.map cO) j = mg cs j := by
 unfold mg; rw [rM]
 cases cs[j]? <;> rfl
theorem qQ (cs : List Class) : ∀ (k m : Nat) (n : ByteArray), upX (cs.map cO) k m n = upX cs k m n
 | 0, _, _ => rfl
 | k + 1, m, n => by
   unfold upX
   rw [Gy]
   cases oL cs n with
   | none => rfl
   | some j => simp only [DK, qQ cs k]
theorem F5 (cs : List Class) (l : List (Nat × Nat)) : jl (cs.map cO) l = jl cs l := by
 unfold jl
 congr 1
 funext x
 unfold nameAt
 rw [rM]
 cases cs[x.2]? <;> rfl
theorem Gg (cs : List Class) (l : List (Nat × Nat)) : iB (cs.map cO) l = iB cs l := by
 unfold iB
 congr 1
 funext x
 unfold pR
 rw [rM]
 cases cs[x.2]? <;> rfl
theorem uS (cs : List Class) (p : Class → Bool) (h : ∀ c, p (cO c) = p c) : (cs.map cO).any p = cs.any p := by
 rw [List.any_map]; congr 1; funext c; exact h c
theorem Kj (l : List Method) (n : ByteArray) : (l.map fO).find? (iJ n) = (l.find? (iJ n)).map fO := by
 induction l with
 | nil => rfl
 | cons m l ih =>
   have e : iJ n (fO m) = iJ n m := rfl
   rw [List.map_cons, List.find?_cons, List.find?_cons, e]
   cases iJ n m with
   | true => rfl
   | false => exact ih
theorem GJ (l : List Method) (n : ByteArray) : (l.map fO).find? (eO n) = (l.find? (eO n)).map fO := by
 induction l with
 | nil => rfl
 | cons m l ih =>
   have e : eO n (fO m) = eO n m := rfl
   rw [List.map_cons, List.find?_cons, List.find?_cons, e]
   cases eO n m with
   | true => rfl
   | false => exact ih
theorem Gx (cs : List Class) (t n : ByteArray) : (fM 0 (cs.map cO) t n).map (fun r => (r.1.type, r.1.params)) = (fM 0 cs t n).map (fun r => (r.1.type, r.1.params)) := by
 unfold fM
 rw [if_pos rfl, if_pos rfl, List.length_map, qQ]
 unfold tV
 generalize upX cs (cs.length + 1) 0 t = l
 induction l with
 | nil => rfl
 | cons x l ih =>
   rw [List.findSome?_cons, List.findSome?_cons]
   have e : (nZ (cs.map cO) n x).map (fun r => (r.1.type, r.1.params)) = (nZ cs n x).map (fun r => (r.1.type, r.1.params)) := by
    unfold nZ
    rw [rM]
    cases cs[x.2]? with
    | none => rfl
    | some c =>
      simp only [Option.map_some]
      show Option.map _ (((c.methods.map fO).find? (eO n)).map (·, c.name)) = _
      rw [GJ]
      cases c.methods.find? (eO n) <;> rfl
   cases h1 : nZ (cs.map cO) n x <;> cases h2 : nZ cs n x <;> rw [h1, h2] at e
   ·exact ih
   ·cases e
   ·cases e
   ·exact e
theorem ng (cs : List Class) (t : ByteArray) : dK (cs.map cO) t = dK cs t := by
 unfold dK; rw [uS cs (oQ t) (fun _ => rfl)]
theorem GI (cs : List Class) (n : ByteArray) : lS 0 (cs.map cO) n = lS 0 cs n := by
 unfold lS; rw [if_pos rfl, if_pos rfl, List.length_map, qQ, F5]
theorem oG (cs : List Class) (a b : ByteArray) : kr 0 (cs.map cO) a b = kr 0 cs a b := by
 unfold kr nY; rw [ng, uS cs (oQ a) (fun _ => rfl), GI]
theorem D8 (cs : List Class) (n : ByteArray) : gT 0 (cs.map cO) n = gT 0 cs n := by
 unfold gT; rw [if_pos rfl, if_pos rfl, List.length_map, qQ, Gg]
theorem G8 (cs : List Class) (a : List ByteArray) (b : List Slot) : qd (cs.map cO) a b = qd cs a b := by
 unfold qd; congr 1; funext t s; exact oG cs t s.type
theorem KL (cs : List Class) (a b : ByteArray) : kE (cs.map cO) a b = kE cs a b := by
 unfold kE; rw [oG, oG]
theorem Kn (cs : List Class) (inn : ByteArray) (env : List Slot) (k : Int) (nm : ByteArray) (ls : List ByteArray) : bN (cs.map cO) inn env k nm ls = bN cs inn env k nm ls := by
 unfold bN
 rw [uS cs (oQ nm) (fun _ => rfl), D8, KL]
 have h := Gx cs (hdT ls) nm
 cases h1 : fM 0 (cs.map cO) (hdT ls) nm with
 | none =>
   cases h2 : fM 0 cs (hdT ls) nm with
   | none => rfl
   | some r => rw [h1, h2] at h; cases h
 | some r =>
   cases h2 : fM 0 cs (hdT ls) nm with
   | none => rw [h1, h2] at h; cases h
   | some r' =>
     rw [h1, h2] at h
     simp only [Option.map_some, Option.some.injEq, Prod.mk.injEq] at h
     obtain ⟨m, u⟩ := r
     obtain ⟨m', u'⟩ := r'
     simp only at h
     simp only [G8, h.1, h.2]
mutual
theorem Jz (cs : List Class) (inn : ByteArray) (env : List Slot) : ∀ x : Expr, jP (cs.map cO) inn env x = jP cs inn env x
 | ⟨k, n, nm, kids⟩ => by
   simp only [jP]
   rw [tO cs inn env kids]
   congr 1
   funext ls
   exact Kn cs inn env k nm ls
theorem tO (cs : List Class) (inn : ByteArray) (env : List Slot) : ∀ l : List Expr, eP (cs.map cO) inn env l = eP cs inn env l
 | [] => by simp only [eP]
 | x :: l => by simp only [eP, Jz cs inn env x, tO cs inn env l]
end
theorem Gp (cs : List Class) (inn ret : ByteArray) (env : List Slot) (k : Int) (ty : ByteArray) (ts : List ByteArray) : jm (cs.map cO) inn ret env k ty ts = jm cs inn ret env k ty ts := by
 unfold jm; rw [ng, oG, oG, oG]
mutual
theorem EU (cs : List Class) (inn ret : ByteArray) : ∀ (env : List Slot) (x : Stmt), lM (cs.map cO) inn ret env x = lM cs inn ret env x
 | env, ⟨k, n, ty, nm, es, th, el⟩ => by
   simp only [lM, tO, mo cs inn ret env th, mo cs inn ret env el, Gp]
theorem mo (cs : List Class) (inn ret : ByteArray) : ∀ (env : List Slot) (l : List Stmt), dH (cs.map cO) inn ret env l = dH cs inn ret env l
 | env, [] => by simp only [dH]
 | env, x :: l => by simp only [dH, EU cs inn ret env x, mo cs inn ret _ l]
end
theorem yx (cs : List Class) (inn ret : ByteArray) (ps : List Slot) (b : List Stmt) : eF (cs.map cO) inn ret ps b = eF cs inn ret ps b := by
 unfold eF
 rw [mo]
 congr 2
 congr 1
 funext s
 exact ng cs s.type
theorem vV {cs cs' : List Class} (h : cs.map cO = cs'.map cO) (inn ret : ByteArray) (ps : List Slot) (b : List Stmt) : eF cs inn ret ps b = eF cs' inn ret ps b := by
 rw [← yx cs, h, yx]
theorem xG {cs cs' : List Class} (h : cs.map cO = cs'.map cO) (t : ByteArray) : dK cs t = dK cs' t := by
 rw [← ng cs, h, ng]
theorem Np (cs : List Class) (c : Class) : dB (cs.map cO) (cO c) = dB cs c := by
 unfold dB
 have e1 : (cO c).name = c.name := rfl
 have e2 : (cO c).methods = c.methods.map fO := rfl
 rw [e1, e2, List.length_map, qQ, List.all_map, List.map_map]
 have h1 : ∀ x, nu (cs.map cO) (cO c) x = nu cs c x := fun x => by
  unfold nu
  rw [rM]
  cases cs[x.2]? with
  | none => rfl
  | some k =>
    show xu (cs.map cO) (cO c) x.1 (cO k) = xu cs c x.1 k
    unfold xu
    rw [List.length_map, uS cs _ (fun _ => rfl)]
    have : (cO c).methods.all (fun y => jS y (cO k).methods) = c.methods.all (fun y => jS y k.methods) := by
     show (c.methods.map fO).all (fun y => jS y (k.methods.map fO)) = _
     rw [List.all_map]
     congr 1
     funext y
     show jS (fO y) (k.methods.map fO) = jS y k.methods
     unfold jS
     show (match (k.methods.map fO).find? (iJ y.name) with | some o => gJ (fO y) o | none => true) = _
     rw [Kj]
     cases k.methods.find? (iJ y.name) <;> rfl
    rw [this]
    rfl
 have h2 : dG (cs.map cO) (upX cs (cs.length + 1) 0 c.name) = dG cs (upX cs (cs.length + 1) 0 c.name) := by
  unfold dG
  congr 1
  funext x
  unfold lG
  rw [rM]
  cases cs[x.2]? <;> rfl
 rw [h2]
 congr 1
 congr 1
 congr 1
 congr 1
 funext x
 exact h1 x
theorem Fe (cs : List Class) : cu 0 (cs.map cO) = cu 0 cs := by
 unfold cu
 rw [if_pos rfl, if_pos rfl, List.length_map, List.map_map]
 have h1 : (cs.map cO).any (fun c => !dB (cs.map cO) c) = cs.any (fun c => !dB cs c) := by
  rw [List.any_map]
  congr 1
  funext c
  show (!dB (cs.map cO) (cO c)) = _
  rw [Np]
 rw [h1]
 rfl
theorem Kv {cs cs' : List Class} (h : cs.map cO = cs'.map cO) : cu 0 cs = cu 0 cs' := by
 rw [← Fe cs, h, Fe]
def iy (skip : Int) : Nat → List Method → List Method
 | _, [] => []
 | i, m :: l => (if (i : Int) = skip then m else fO m) :: iy skip (i + 1) l
def iU (skip : Int) : Nat → List Class → List Class
 | _, [] => []
 | i, c :: l => { c with methods := iy skip i c.methods } :: iU skip (i + c.methods.length) l
def gG (cs : List Class) : Nat := (cs.map (·.methods.length)).sum
def jr (p : Program) (skip : Int) : Program := ⟨iU skip 0 p.classes, if skip < 0 then p.main else []⟩
theorem za (skip : Int) : ∀ (l : List Method) (i : Nat), (iy skip i l).map fO = l.map fO
 | [], _ => rfl
 | m :: l, i => by
   simp only [iy, List.map_cons, za skip l (i + 1)]
   split <;> rfl
theorem uq (skip : Int) : ∀ (l : List Class) (i : Nat), (iU skip i l).map cO = l.map cO
 | [], _ => rfl
 | c :: l, i => by
   simp only [iU, List.map_cons, uq skip l]
   congr 1
   simp only [cO, za]
theorem wP (skip : Int) : ∀ (l : List Method) (i : Nat), (iy skip i l).length = l.length
 | [], _ => rfl
 | m :: l, i => by simp only [iy, List.length_cons, wP skip l]
theorem xC (skip : Int) : ∀ (l : List Class) (i : Nat), (iU skip i l).length = l.length
 | [], _ => rfl
 | c :: l, i => by simp only [iU, List.length_cons, xC skip l]
theorem C8 {P : Method → Prop} (hb : ∀ m, P m → P (fO m)) (skip : Int) : ∀ (l : List Method) (i : Nat), (∀ m ∈ l, P m) → ∀ m ∈ iy skip i l, P m
 | [], _, _, m, hm => by cases hm
 | x :: l, i, h, m, hm => by
   simp only [iy, List.mem_cons] at hm
   rcases hm with rfl | hm
   ·split
    ·exact h x (by simp)
    ·exact hb x (h x (by simp))
   ·exact C8 hb skip l (i + 1) (fun y hy => h y (by simp [hy])) m hm
theorem CZ {P : Method → Prop} {Q : ByteArray → ByteArray → List Slot → Prop} (hb : ∀ m, P m → P (fO m)) (skip : Int) : ∀ (l : List Class) (i : Nat), (∀ c ∈ l, Q c.name c.super c.fields ∧ ∀ m ∈ c.methods, P m) → ∀ c ∈ iU skip i l, Q c.name c.super c.fields ∧ ∀ m ∈ c.methods, P m
 | [], _, _, c, hc => by cases hc
 | x :: l, i, h, c, hc => by
   simp only [iU, List.mem_cons] at hc
   rcases hc with rfl | hc
   ·exact ⟨(h x (by simp)).1, C8 hb skip x.methods i (h x (by simp)).2⟩
   ·exact CZ hb skip l _ (fun y hy => h y (by simp [hy])) c hc
theorem Gl {p : Program} (h : bG p = true) (skip : Int) : bG (jr p skip) = true := by
 unfold bG at h ⊢
 simp only [Bool.and_eq_true, List.all_eq_true] at h ⊢
 refine ⟨?_, fun c hc => ?_⟩
 ·unfold jr
  dsimp only
  split
  ·exact h.1
  ·intro x hx; cases hx
 ·have := CZ (P := fun m => bL m = true) (Q := fun a b f => (bK a && (b.toList.isEmpty || bK b) && f.all fD) = true) (fun m hm => by
   unfold bL fO at *
   simp only [Bool.and_eq_true] at hm ⊢
   exact ⟨hm.1, rfl⟩) skip p.classes 0 (fun c hc => by
    have := h.2 c hc
    unfold dn dY at this
    simp only [Bool.and_eq_true, List.all_eq_true] at this ⊢
    exact this) c hc
  unfold dn dY
  rw [Bool.and_eq_true, List.all_eq_true]
  exact this
def mOk (cs : List Class) (inn : ByteArray) (m : Method) : Bool := dK cs m.type && eF cs inn m.type m.params m.body
theorem E9 {cs cs' : List Class} (h : cs.map cO = cs'.map cO) (inn : ByteArray) (skip : Int) : ∀ (l : List Method) (i : Nat), (iy skip i l).all (mOk cs' inn) = (l.all (fun m => mOk cs inn (fO m)) && (match l[(skip - i).toNat]? with | some m => if (i : Int) ≤ skip then mOk cs inn m else true | none => true))
 | [], i => by simp [iy]
 | m :: l, i => by
   have ih := E9 h inn skip l (i + 1)
   have ha : ∀ m, mOk cs' inn m = mOk cs inn m := fun m => by
    unfold mOk; rw [xG h, vV h]
   have hbare : mOk cs inn m = true → mOk cs inn (fO m) = true := fun hm => by
    unfold mOk eF fO at *
    simp only [Bool.and_eq_true] at hm ⊢
    exact ⟨hm.1, ⟨hm.2.1.1, by simp [bA, tY]⟩, by simp [dH]⟩
   simp only [iy, List.all_cons, ih, ha]
   by_cases e : (i : Int) = skip
   ·rw [if_pos e]
    have e1 : (skip - (i : Int)).toNat = 0 := by omega
    have e2 : ¬ (((i + 1 : Nat) : Int) ≤ skip) := by omega
    have e3 : (i : Int) ≤ skip := by omega
    rw [e1]
    simp only [List.getElem?_cons_zero, if_pos e3, if_neg e2]
    have e4 : (match l[(skip - ((i + 1 : Nat) : Int)).toNat]? with | some m => true | none => true) = true := by split <;> rfl
    rw [e4]
    cases hm : mOk cs inn m with
    | true => rw [hbare hm]; simp
    | false => simp
   ·rw [if_neg e]
    by_cases e3 : (i : Int) ≤ skip
    ·have e1 : (skip - (i : Int)).toNat = (skip - ((i + 1 : Nat) : Int)).toNat + 1 := by omega
     have e2 : ((i + 1 : Nat) : Int) ≤ skip := by omega
     rw [e1, List.getElem?_cons_succ]
     simp only [if_pos e2, if_pos e3, Bool.and_assoc]
    ·have e2 : ¬ (((i + 1 : Nat) : Int) ≤ skip) := by omega
     simp only [if_neg e2, if_neg e3]
     have t1 : ∀ o : Option Method, (match o with | some m => true | none => true) = true := fun o => by cases o <;> rfl
     rw [t1, t1]
     simp [Bool.and_assoc]
def allM (cs : List Class) : List (ByteArray × Method) := cs.flatMap fun c => c.methods.map fun m => (c.name, m)
theorem LQ (cs : List Class) : (allM cs).length = gG cs := by
 unfold allM gG
 induction cs with
 | nil => rfl
 | cons c l ih => simp [ih]
def wF (cs : List Class) (c : Class) : Bool := c.fields.all (fun s => dK cs s.type) && c.methods.all (fun m => mOk cs c.name (fO m))
def atOk (cs : List Class) (skip : Int) (i : Nat) (l : List (ByteArray × Method)) : Bool := match l[(skip - i).toNat]? with | some r => if (i : Int) ≤ skip then mOk cs r.1 r.2 else true | none => true
theorem Na (cs : List Class) (skip : Int) (i : Nat) (a b : List (ByteArray × Method)) : atOk cs skip i (a ++ b) = (atOk cs skip i a && atOk cs skip (i + a.length) b) := by
 unfold atOk
 by_cases h0 : (i : Int) ≤ skip
 ·by_cases h1 : (skip - (i : Int)).toNat < a.length
  ·rw [List.getElem?_append_left h1]
   have h2 : ¬ (((i + a.length : Nat) : Int) ≤ skip) := by omega
   have t1 : ∀ o : Option (ByteArray × Method), (match o with | some r => if ((i + a.length : Nat) : Int) ≤ skip then mOk cs r.1 r.2 else true | none => true) = true := fun o => by cases o with | none => rfl | some r => simp only [if_neg h2]
   rw [t1, Bool.and_true]
  ·rw [List.getElem?_append_right (by omega), List.getElem?_eq_none (l := a) (by omega), Bool.true_and]
   have e : (skip - (i : Int)).toNat - a.length = (skip - ((i + a.length : Nat) : Int)).toNat := by omega
   have h2 : ((i + a.length : Nat) : Int) ≤ skip := by omega
   rw [e]
   cases b[(skip - ((i + a.length : Nat) : Int)).toNat]? with
   | none => rfl
   | some r => simp only [if_pos h0, if_pos h2]
 ·have h2 : ¬ (((i + a.length : Nat) : Int) ≤ skip) := by omega
  have t0 : ∀ o : Option (ByteArray × Method), (match o with | some r => if (i : Int) ≤ skip then mOk cs r.1 r.2 else true | none => true) = true := fun o => by cases o with | none => rfl | some r => simp only [if_neg h0]
  have t1 : ∀ o : Option (ByteArray × Method), (match o with | some r => if ((i + a.length : Nat) : Int) ≤ skip then mOk cs r.1 r.2 else true | none => true) = true := fun o => by cases o with | none => rfl | some r => simp only [if_neg h2]
  rw [t0, t0, t1]; rfl
theorem Ec {cs cs' : List Class} (h : cs.map cO = cs'.map cO) (skip : Int) : ∀ (l : List Class) (i : Nat), (iU skip i l).all (jD cs') = (l.all (wF cs) && atOk cs skip i (allM l))
 | [], i => by simp [iU, allM, atOk]
 | c :: l, i => by
   have ih := Ec h skip l (i + c.methods.length)
   have hM := E9 h c.name skip c.methods i
   have e1 : jD cs' { c with methods := iy skip i c.methods } = (c.fields.all (fun s => dK cs s.type) && (iy skip i c.methods).all (mOk cs' c.name)) := by
    unfold jD
    congr 1
    congr 1
    funext s
    exact (xG h s.type).symm
   have e2 : allM (c :: l) = c.methods.map (fun m => (c.name, m)) ++ allM l := rfl
   have e3 : atOk cs skip i (c.methods.map fun m => (c.name, m)) = (match c.methods[(skip - i).toNat]? with | some m => if (i : Int) ≤ skip then mOk cs c.name m else true | none => true) := by
    unfold atOk
    rw [List.getElem?_map]
    cases c.methods[(skip - (i : Int)).toNat]? <;> rfl
   simp only [iU, List.all_cons, ih, e1, hM, e2, Na, e3, List.length_map, wF]
   cases c.fields.all (fun s => dK cs s.type) <;> cases c.methods.all (fun m => mOk cs c.name (fO m)) <;> cases (match c.methods[(skip - (i : Int)).toNat]? with | some m => if (i : Int) ≤ skip then mOk cs c.name m else true | none => true) <;> simp
theorem G7 (cs : List Class) : eF cs tNo tNo [] [] = true := by
 simp [eF, bA, tY, dH]
theorem wO (p : Program) (skip : Int) : iT (jr p skip) = ((if skip < 0 then eF p.classes tNo tNo [] p.main else true) && (p.classes.all (wF p.classes) && atOk p.classes skip 0 (allM p.classes))) := by
 have h : p.classes.map cO = (iU skip 0 p.classes).map cO := (uq skip p.classes 0).symm
 unfold iT jr
 dsimp only
 rw [Ec h, ← vV h]
 congr 1
 split
 ·rfl
 ·exact G7 _
theorem Ld {cs : List Class} {inn : ByteArray} {m : Method} (hm : mOk cs inn m = true) : mOk cs inn (fO m) = true := by
 unfold mOk eF fO at *
 simp only [Bool.and_eq_true] at hm ⊢
 exact ⟨hm.1, ⟨hm.2.1.1, by simp [bA, tY]⟩, by simp [dH]⟩
theorem Nh (p : Program) : iT p = true ↔ eF p.classes tNo tNo [] p.main = true ∧ p.classes.all (wF p.classes) = true ∧ ∀ r ∈ allM p.classes, mOk p.classes r.1 r.2 = true := by
 unfold iT
 simp only [Bool.and_eq_true, List.all_eq_true]
 constructor
 ·rintro ⟨h1, h2⟩
  refine ⟨h1, fun c hc => ?_, fun r hr => ?_⟩
  ·have := h2 c hc
   unfold jD at this
   unfold wF
   simp only [Bool.and_eq_true, List.all_eq_true] at this ⊢
   exact ⟨this.1, fun m hm => Ld (by unfold mOk; rw [Bool.and_eq_true]; exact this.2 m hm)⟩
  ·unfold allM at hr
   obtain ⟨c, hc, hr⟩ := List.mem_flatMap.1 hr
   obtain ⟨m, hm, rfl⟩ := List.mem_map.1 hr
   have := h2 c hc
   unfold jD at this
   simp only [Bool.and_eq_true, List.all_eq_true] at this
   unfold mOk
   rw [Bool.and_eq_true]
   exact this.2 m hm
 ·rintro ⟨h1, h2, h3⟩
  refine ⟨h1, fun c hc => ?_⟩
  have := h2 c hc
  unfold wF at this
  unfold jD
  simp only [Bool.and_eq_true, List.all_eq_true] at this ⊢
  refine ⟨this.1, fun m hm => ?_⟩
  have := h3 (c.name, m) (List.mem_flatMap.2 ⟨c, hc, List.mem_map.2 ⟨m, hm, rfl⟩⟩)
  unfold mOk at this
  rwa [Bool.and_eq_true] at this
theorem Nv (p : Program) (hc : cu (ji p) p.classes = 0) : (∀ skip : Int, -1 ≤ skip → skip < gG p.classes → jJ (jr p skip) = 0) ↔ jJ p = 0 := by
 have hb : bG p = true := by
  cases h : bG p with
  | true => rfl
  | false =>
    have : ji p = 30 := by unfold ji; rw [h]; rfl
    rw [this] at hc
    simp [cu] at hc
 have he : ∀ skip, cu (ji (jr p skip)) (jr p skip).classes = 0 := fun skip => by
  have e1 : ji (jr p skip) = 0 := by unfold ji; rw [Gl hb]; rfl
  have e2 : ji p = 0 := by unfold ji; rw [hb]; rfl
  rw [e1]
  rw [e2] at hc
  exact (Kv (uq skip p.classes 0)).trans hc
 have hp : jJ p = 0 ↔ iT p = true := by
  unfold jJ
  rw [if_pos hc]
  cases iT p <;> simp
 have hq : ∀ skip, jJ (jr p skip) = 0 ↔ iT (jr p skip) = true := fun skip => by
  unfold jJ
  rw [if_pos (he skip)]
  cases iT (jr p skip) <;> simp
 rw [hp, Nh]
 constructor
 ·intro h
  have h0 := (hq (-1)).1 (h (-1) (by decide) (by omega))
  rw [wO] at h0
  simp only [Bool.and_eq_true] at h0
  refine ⟨by simpa using h0.1, h0.2.1, fun r hr => ?_⟩
  obtain ⟨i, hi⟩ := List.getElem?_of_mem hr
  have hlt := (List.getElem?_eq_some_iff.1 hi).1
  rw [LQ] at hlt
  have h1 := (hq i).1 (h i (by omega) (by omega))
  rw [wO] at h1
  simp only [Bool.and_eq_true] at h1
  have h2 := h1.2.2
  unfold atOk at h2
  have e : ((i : Int) - ((0 : Nat) : Int)).toNat = i := by omega
  rw [e, hi] at h2
  simpa using h2
 ·rintro ⟨h1, h2, h3⟩ skip - -
  rw [hq, wO, Bool.and_eq_true, Bool.and_eq_true]
  refine ⟨by split <;> simp [h1], h2, ?_⟩
  unfold atOk
  cases hx : (allM p.classes)[(skip - ((0 : Nat) : Int)).toNat]? with
  | none => rfl
  | some r =>
    dsimp only
    split
    ·exact h3 r (List.mem_of_getElem? hx)
    ·rfl
def GStep (P : Go.Program) (R : Ref) (n : Nat) (ds : List Deferred) (ops : Array Oper) (o : Oper) (st st' : St) : Prop :=
 ∀ (a : Act) (w : World) (K : Act → World → Prop) (Q : Exit → Act → World → Prop), SR R n ds st a w → (∀ d, o.dst = some d → d < n) → (∀ a' w', SR R n ds st' a' w' → K a' w') →
   if Region.wanted o (yielded ops a.tmps) = true then o.wp P a w K Q else K (a.put o.dst undef) w
inductive GRun (P : Go.Program) (R : Ref) (n : Nat) (ds : List Deferred) (ops : Array Oper) : List Oper → St → St → Prop where
 | nil (st : St) : GRun P R n ds ops [] st st
 | cons {o : Oper} {l : List Oper} {st st1 st2 : St} (h : GStep P R n ds ops o st st1) (t : GRun P R n ds ops l st1 st2) : GRun P R n ds ops (o :: l) st st2
def xO (P : Go.Program) (R : Ref) (n : Nat) (ds : List Deferred) (ops : Array Oper) (l : List Oper) (st : St) (k : St → Prop) : Prop := ∃ st', GRun P R n ds ops l st st' ∧ k st'
section
variable {P : Go.Program} {T : Tab} {R : Ref} {n base : Nat} {ds : List Deferred} {ops : Array Oper}
theorem QH {st : St} {k : St → Prop} (h : k st) : xO P R n ds ops [] st k := ⟨st, .nil _, h⟩
theorem Q7 {o : Oper} {l : List Oper} {st st1 : St} {k : St → Prop} (h : GStep P R n ds ops o st st1) (ht : xO P R n ds ops l st1 k) : xO P R n ds ops (o :: l) st k :=
 let ⟨st', h1, h2⟩ := ht
 ⟨st', .cons h h1, h2⟩
theorem FW (hT : T.Ok P) : ∀ {l l2 : List Oper} {st st1 st2 : St}, RunL P T R.keep base ops l st st1 → GRun P R n ds ops l2 st1 st2 → GRun P R n ds ops (l ++ l2) st st2
 | [], _, _, _, _, h, t => by cases h; exact t
 | o :: l, _, _, _, _, h, t => by
   cases h with
   | cons h h2 => exact .cons (fun a w K Q hr hd hK => h.snd hT hr hd hK) (FW hT h2 t)
theorem Dm (hT : T.Ok P) (base : Nat) {l : List Oper} {st : St} {k : St → Prop} (i : Nat) (h : jG P T R.keep base ops (l.take i) st (fun st1 => xO P R n ds ops (l.drop i) st1 k)) : xO P R n ds ops l st k := by
 obtain ⟨st1, h1, st2, h2, h3⟩ := h
 have := FW hT h1 h2
 rw [List.take_append_drop] at this
 exact ⟨st2, this, h3⟩
theorem QD (hd : ∀ o ∈ ops, ∀ d, o.dst = some d → d < n) {Q : Exit → Act → World → Prop} {st' : St} (hQ : ∀ a w, SR R n ds st' a w → Q .normal a w) :
 ∀ (l : List Oper) (k : Nat) (st : St) (a : Act) (w : World), (∀ j, l[j]? = ops[k + j]?) → GRun P R n ds ops l st st' → SR R n ds st a w → wpOps P ops Q (List.range' k l.length) a w
 | [], _, st, a, w, _, h, hr => by cases h; exact hQ a w hr
 | o :: l, k, st, a, w, hl, h, hr => by
   cases h with
   | @cons _ _ _ st1 _ h t =>
     have hi : ops[k]? = some o := by simpa using (hl 0).symm
     rw [List.length_cons, List.range'_succ, wpOps_cons]
     unfold wpOp
     rw [hi]
     have hgo := h a w (wpOps P ops Q (List.range' (k + 1) l.length)) Q hr (hd o (Array.mem_of_getElem? hi)) (fun a' w' hr' => QD hd hQ l (k + 1) st1 a' w' (fun j => by
      have := hl (j + 1)
      rw [Nat.add_right_comm, Nat.add_assoc]
      simpa [Nat.add_comm, Nat.add_left_comm] using this) t hr')
     dsimp only
     split
     ·rename_i hw; rw [if_pos hw] at hgo; exact .inl hgo
     ·rename_i hw; rw [if_neg hw] at hgo; exact hgo
theorem W.Iz {id : Nat} {st : St} {K : Exit → St → Prop} (hd : jM n ops = true) (h : xO P R n ds ops ops.toList st (K .normal)) : W P R n ds st (.region id ops false) K := fun a w hr => by
 obtain ⟨st', h1, h2⟩ := h
 refine wp_region ?_
 rw [uT, ← Array.length_toList]
 exact QD (gB hd) (fun a w hr' => ⟨st', h2, hr'⟩) ops.toList 0 st a w (fun j => by simp) h1 hr
end
section
variable {P : Go.Program} {T : Tab} {R : Ref} {n base : Nat} {ds : List Deferred} {ops : Array Oper}
theorem Qk (hT : T.Ok P) {o : Oper} {l : List Oper} {st : St} {k : St → Prop} {d : Nat} {r : A} (hw : fE ops o st.s = some true) (hd0 : o.dst = some d) (hq : qv2 T st.s st.m 0 o.op = some (r, none))
 (ht : xO P R n ds ops l ⟨upd st.s d r, st.m⟩ k) : xO P R n ds ops (o :: l) st k := by
 refine Q7 (fun a w K Q hr hd hK => ?_) ht
 obtain ⟨B, I, hm, hx0, hkp, hs⟩ := hr.ex
 rw [fP hs hw, if_pos rfl]
 obtain ⟨v, w', B', I', h1, h2, h3, h4, h5, h6, h7⟩ := Ih hT (a := a) (id := 0) hm hs hr.ids (fun h => by cases h) hq
 unfold Oper.wp Oper.upon
 rw [h1]
 have hE : Ext w w' I I' := hm.ext h3 h4
 have hd' : ∀ d, o.dst = some d → d < a.tmps.size := fun d e => by rw [hr.size]; exact hd d e
 have hput := uz (dst := o.dst) (r := r) (v := v) (fun t => (hs t).mono hE fun j hj => h5 j (hr.ids t j hj)) h6 hd'
 rw [hd0] at hput
 refine hK _ _ ⟨⟨B', I', h2, hx0.trans hE, fun j hj => (h5 j (hr.kept j hj)).trans (hkp j hj), by rw [hd0]; exact hput⟩, ?_, by rw [(fJ _ _ _).1]; exact hr.size, hr.nn, ?_, hr.kept⟩
 ·intro t j hj
  show (st.m j).isSome = true
  have hj : j ∈ (upd st.s d r t).ids := hj
  unfold upd at hj
  split at hj
  ·exact h7 j hj
  ·exact hr.ids t j hj
 ·rw [(fJ _ _ _).2]
  have hdd : DID ≠ d := fun q => absurd (hd d hd0) (Nat.not_lt.2 (q ▸ hr.nn))
  show a.defers = dfs (upd st.s d r DID) ++ ds
  rw [upd_ne _ _ hdd]; exact hr.defs
end
theorem BP (skip : Int) : ∀ (a b : List Method) (i : Nat), iy skip i (a ++ b) = iy skip i a ++ iy skip (i + a.length) b
 | [], b, i => by simp [iy]
 | m :: a, b, i => by
   simp only [List.cons_append, iy, BP skip a b (i + 1), List.length_cons]
   rw [show i + 1 + a.length = i + (a.length + 1) by omega]
theorem zx (c : Class) (l : List Class) : gG (c :: l) = c.methods.length + gG l := by simp [gG]
theorem CY (a b : List Class) : gG (a ++ b) = gG a + gG b := by simp [gG]
theorem Cn (skip : Int) : ∀ (a b : List Class) (i : Nat), iU skip i (a ++ b) = iU skip i a ++ iU skip (i + gG a) b
 | [], b, i => by simp [iU, gG]
 | c :: a, b, i => by
   simp only [List.cons_append, iU, Cn skip a b, zx]
   rw [show i + c.methods.length + gG a = i + (c.methods.length + gG a) by omega]
theorem Hz (skip : Int) {l : List Method} {k : Nat} {m : Method} (h : l[k]? = some m) (i : Nat) : iy skip i (l.take (k + 1)) = iy skip i (l.take k) ++ [if ((i + k : Nat) : Int) = skip then m else fO m] := by
 have hk := (List.getElem?_eq_some_iff.1 h).1
 rw [List.take_add_one, h, Option.toList_some, BP, List.length_take, Nat.min_eq_left (by omega)]
 rfl
theorem F3 (skip : Int) {l : List Class} {k : Nat} {c : Class} (h : l[k]? = some c) : iU skip 0 (l.take (k + 1)) = iU skip 0 (l.take k) ++ [{ c with methods := iy skip (gG (l.take k)) c.methods }] ∧ gG (l.take (k + 1)) = gG (l.take k) + c.methods.length := by
 rw [List.take_add_one, h, Option.toList_some, Cn, CY, Nat.zero_add]
 exact ⟨rfl, by simp [gG]⟩
def okv (p : Program) (i : Nat) : Bool := (List.range i).all fun j => decide (jJ (jr p ((j : Int) - 1)) = 0)
theorem vk (p : Program) (i : Nat) : okv p (i + 1) = (okv p i && decide (jJ (jr p ((i : Int) - 1)) = 0)) := by
 unfold okv
 rw [List.range_succ, List.all_append]
 simp
theorem I6 (p : Program) (hE : cu (ji p) p.classes = 0) : okv p (gG p.classes + 1) = decide (jJ p = 0) := by
 have h := Nv p hE
 by_cases hc : jJ p = 0
 ·rw [decide_eq_true hc]
  unfold okv
  rw [List.all_eq_true]
  intro j hj
  have hj := List.mem_range.1 hj
  exact decide_eq_true (h.2 hc _ (by omega) (by omega))
 ·rw [decide_eq_false hc]
  cases ho : okv p (gG p.classes + 1) with
  | false => rfl
  | true =>
    exfalso
    apply hc
    rw [← h]
    intro skip h1 h2
    unfold okv at ho
    rw [List.all_eq_true] at ho
    have := ho (skip + 1).toNat (List.mem_range.2 (by omega))
    rw [show (((skip + 1).toNat : Nat) : Int) - 1 = skip by omega] at this
    exact of_decide_eq_true this
theorem zD (cs : List Class) (k : Nat) : gG (cs.take k) ≤ gG cs := by
 have : gG cs = gG (cs.take k) + gG (cs.drop k) := by rw [← CY, List.take_append_drop]
 omega
set_option maxHeartbeats 8000000 in
theorem GN (p : Program) (hlen : p.classes.length ≤ 1048576) (hnm : gG p.classes ≤ 1099511627776) (hml : ∀ c ∈ p.classes, c.methods.length ≤ 1048576)
 (hlive : ∀ m, COk Tryz.prog 6 [] m (.c (.bool true)))
 (hR : ∀ m, COk Tryz.prog 9 [.agg (dz p)] m (.c (.int .i64 (cu (ji p) p.classes))))
 (hCp : ∀ m, COk Tryz.prog 10 [.agg (dz p)] m (.c (.int .i64 (jJ p))))
 (hCq : cu (ji p) p.classes = 0 → ∀ skip m, COk Tryz.prog 10 [.agg (dz (jr p skip))] m (.c (.int .i64 (jJ (jr p skip))))) (m : Mem) :
 COk Tryz.prog 5 [.agg (dz p)] m (.c (.bool true)) := by
 have hX : cu (ji p) p.classes ≠ 0 → jJ p = cu (ji p) p.classes := fun h => by unfold jJ; rw [if_neg h]
 have hcp : dz p = [.sl (p.classes.map ay), .sl (bJ p.main)] := rfl
 rw [hcp] at hR hCp ⊢
 refine (cB ah Tryz.func5 (by kernel_rfl) rfl rfl (by rfl) (by rfl) (by rfl) (fun R hkeep => ?_) m)
 refine W.go ?_
 (repeat (first | refine W.seq ?_ | refine W.block ?_ | refine W.skip ?_ | refine W.exit ?_))
 refine W.ak ah 0 (by decide) ?_
 refine xs0 0 ?_
 refine au rfl rfl rfl rfl rfl (by simp) iR (hlive _) ?_
 refine xe0 ?_
 (repeat (first | refine W.seq ?_ | refine W.block ?_ | refine W.skip ?_ | refine W.exit ?_))
 refine W.ak ah 0 (by decide) ?_
 refine xs0 1 ?_
 refine au rfl rfl rfl rfl rfl (by simp) cw1 (hR _) ?_
 refine xe0 ?_
 by_cases hE : cu (ji p) p.classes = 0
 case neg =>
  have hb : decide (cu (ji p) p.classes = 0) = false := by simpa using hE
  rw [hb]
  (repeat (first | refine W.seq ?_ | refine W.block ?_ | refine W.skip ?_ | refine W.exit ?_))
  refine W.cond rfl (fun _ => ?_) (fun h => absurd h (by decide))
  rw [hX hE] at hCp
  (repeat (first | refine W.seq ?_ | refine W.block ?_ | refine W.skip ?_ | refine W.exit ?_))
  refine W.bM ah 0 aF (by kernel_rfl) (by decide) ?_
  refine xs0 3 ?_
  refine au rfl rfl rfl rfl rfl (by simp) cw1 (hCp _) ?_
  refine xs0 1 ?_
  refine au rfl rfl rfl rfl rfl (by simp) cw1 (hR _) ?_
  refine aA (by simp only [exb, simprocAttr, decide_true]; rfl) ?_
  refine W.go ?_
  exact W.ret ⟨.inr rfl, by rfl, JL⟩
 rw [hE]
 have hCq := hCq hE
 (repeat (first | refine W.seq ?_ | refine W.block ?_ | refine W.skip ?_ | refine W.exit ?_))
 refine W.cond rfl (fun h => absurd h (by decide)) (fun _ => ?_)
 obtain ⟨cs, mn⟩ := p
 simp only at hlen hnm hml hE
 obtain ⟨N, hN⟩ : ∃ N, gG cs = N := ⟨_, rfl⟩
 refine W.go ?_
 refine W.loop (ι := Nat) (fun i => ⟨upd (upd (upd (upd (fun _ => .top) 1 (.ptr 1 0)) 3 (.c (.bool true))) 4 (.c (.bool (okv ⟨cs, mn⟩ i)))) 5 (.c (.int .i64 ((i : Int) - 1))),
  upd Mem.nil 1 (some (.box 25 [.c (.sl (cs.map ay)), .c (.sl (bJ mn))]))⟩) (fun i => i ≤ 41 ∧ (0 < i → i ≤ N + 1 ∧ N ≤ 40)) (fun i => 41 - i) 0 ?start ⟨by decide, fun h => absurd h (by decide)⟩ ?round
 case start =>
  refine nK ?sle ?mle (aI hkeep)
  case mle => repeat (first | exact aZ _ | exact aC _ | refine aY ?_ (by first | rfl | (simp only [av, aL, Nat.reduceEqDiff, reduceIte, okv, List.range_zero, List.all_nil]; done)))
  case sle => repeat (first | exact aQ _ | exact aK _ | refine aP ?_ (by first | rfl | (simp only [av, aN, aO, Nat.reduceEqDiff, reduceIte, okv, List.range_zero, List.all_nil]; done)))
 case round =>
  rintro i ⟨hi, hiN⟩
  refine W.go ?_
  refine W.cond rfl ?_ ?_
  ·intro hlt
   simp only [decide_eq_true_eq] at hlt
   obtain ⟨skip, hsk⟩ : ∃ skip : Int, (i : Int) - 1 = skip := ⟨_, rfl⟩
   rw [hsk] at hlt ⊢
   (repeat (first | refine W.seq ?_ | refine W.block ?_ | refine W.skip ?_ | refine W.exit ?_))
   refine W.Iz (by decide) ?_
   refine Qk ah (r := .aggA [.nil, .nil]) rfl rfl Fz ?_
   refine Dm ah 0 2 ?_
   refine xe0 ?_
   refine QH ?_
   repeat (first | refine W.q ?_ | refine W.g ?_ Sj)
   refine W.oO true 6 0 201 42 4 (tyb := 25) (cells := [.nil, .nil]) rfl rfl rfl ?_
   refine W.loop (ι := Nat) (fun k => ⟨upd (upd (upd (upd (upd (upd (upd (upd (upd (fun _ => .top) 1 (.ptr 1 0)) 3 (.c (.bool true))) 4 (.c (.bool (okv ⟨cs, mn⟩ i)))) 5 (.c (.int .i64 skip))) 6 (.ptr 6 0)) 7 (.c (.int .i64 (gG (cs.take k))))) 31 (.c (.sl (cs.map ay)))) 32 (.c (.int .i64 cs.length))) 33 (.c (.int .i64 k)),
    upd (upd (upd Mem.nil 1 (some (.box 25 [.c (.sl (cs.map ay)), .c (.sl (bJ mn))]))) 6 (some (.box 25 [.own 201, .nil]))) 201 (some (.arr 42 4 ((iU skip 0 (cs.take k)).map ay)))⟩) (fun k => k ≤ cs.length) (fun k => cs.length - k) 0 ?start2 (Nat.zero_le _) ?round2
   case start2 =>
    refine nK ?sle ?mle (aI hkeep)
    case mle => repeat (first | exact aZ _ | exact aC _ | refine aY ?_ (by first | rfl | (simp only [av, aL, Nat.reduceEqDiff, reduceIte, O.kill, A.kill, aM, Option.map_some, List.map_append, List.map_cons, List.map_nil, List.length_map, jd]; done)))
    case sle => repeat (first | exact aQ _ | exact aK _ | refine aP ?_ (by first | rfl | (simp only [av, aN, aO, Nat.reduceEqDiff, reduceIte, O.kill, A.kill, aM, Option.map_some, List.map_append, List.map_cons, List.map_nil, List.length_map, jd]; done)))
   case round2 =>
    intro k hk
    have hnt := zD cs k
    refine W.go ?_
    refine W.cond rfl ?_ ?_
    ·intro hltk
     replace hltk := dtl hltk
     obtain ⟨c, hxk⟩ : ∃ c, cs[k]? = some c := ⟨_, List.getElem?_eq_getElem hltk⟩
     have hat := cZ (f := ay) hxk
     obtain ⟨hkc, hnn⟩ := F3 skip hxk
     have hnt2 := zD cs (k + 1)
     have hmlc := hml c (List.mem_of_getElem? hxk)
     obtain ⟨cn, csu, cfs, cms⟩ := c
     simp only at hkc hnn hmlc
     simp only [ay] at hat
     obtain ⟨n0, hn0⟩ : ∃ n0, gG (cs.take k) = n0 := ⟨_, rfl⟩
     obtain ⟨K0, hK0⟩ : ∃ K0, iU skip 0 (cs.take k) = K0 := ⟨_, rfl⟩
     have hK0l : K0.length ≤ 1048576 := by rw [← hK0, xC, List.length_take]; omega
     rw [hn0] at hkc hnn hnt ⊢
     rw [hK0] at hkc ⊢
     (repeat (first | refine W.seq ?_ | refine W.block ?_ | refine W.skip ?_ | refine W.exit ?_))
     refine W.ak ah 0 (by decide) ?_
     refine aA IE ?_
     (repeat (first | refine W.seq ?_ | refine W.block ?_ | refine W.skip ?_ | refine W.exit ?_))
     refine W.Iz (by decide) ?_
     refine Dm ah 0 6 ?_
     refine xe0 ?_
     refine Qk ah (r := .aggA [.c (.str cn), .c (.str csu), .c (.sl (cfs.map bC)), .nil]) rfl rfl Fz ?_
     refine Dm ah 0 2 ?_
     refine xe0 ?_
     refine QH ?_
     repeat (first | refine W.q ?_ | refine W.g ?_ Sj)
     refine W.oO true 10 3 200 44 4 (tyb := 42) (cells := [.c (.str cn), .c (.str csu), .c (.sl (cfs.map bC)), .nil]) rfl rfl rfl ?_
     refine W.loop (ι := Nat) (fun j => ⟨upd (upd (upd (upd (upd (upd (upd (upd (upd (upd (upd (upd (upd (fun _ => .top) 1 (.ptr 1 0)) 3 (.c (.bool true))) 4 (.c (.bool (okv ⟨cs, mn⟩ i)))) 5 (.c (.int .i64 skip))) 6 (.ptr 6 0)) 7 (.c (.int .i64 ((n0 + j : Nat) : Int)))) 10 (.ptr 10 0)) 31 (.c (.sl (cs.map ay)))) 32 (.c (.int .i64 cs.length))) 33 (.c (.int .i64 k))) 45 (.c (.sl (cms.map aS)))) 46 (.c (.int .i64 cms.length))) 47 (.c (.int .i64 j)),
      upd (upd (upd (upd (upd Mem.nil 1 (some (.box 25 [.c (.sl (cs.map ay)), .c (.sl (bJ mn))]))) 6 (some (.box 25 [.own 201, .nil]))) 201 (some (.arr 42 4 (K0.map ay)))) 10 (some (.box 42 [.c (.str cn), .c (.str csu), .c (.sl (cfs.map bC)), .own 200]))) 200 (some (.arr 44 4 ((iy skip n0 (cms.take j)).map aS)))⟩) (fun j => j ≤ cms.length) (fun j => cms.length - j) 0 ?start3 (Nat.zero_le _) ?round3
     case start3 =>
      refine nK ?sle ?mle (aI hkeep)
      case mle => repeat (first | exact aZ _ | exact aC _ | refine aY ?_ (by first | rfl | (simp only [av, aL, Nat.reduceEqDiff, reduceIte, O.kill, A.kill, aM, Option.map_some, List.map_append, List.map_cons, List.map_nil, List.length_map, jd, List.take_zero, iy, Nat.add_zero]; done)))
      case sle => repeat (first | exact aQ _ | exact aK _ | refine aP ?_ (by first | rfl | (simp only [av, aN, aO, Nat.reduceEqDiff, reduceIte, O.kill, A.kill, aM, Option.map_some, List.map_append, List.map_cons, List.map_nil, List.length_map, jd, List.take_zero, iy, Nat.add_zero]; done)))
     case round3 =>
      intro j hj
      refine W.go ?_
      refine W.cond rfl ?_ ?_
      ·intro hltj
       replace hltj := dtl hltj
       obtain ⟨me, hxj⟩ : ∃ me, cms[j]? = some me := ⟨_, List.getElem?_eq_getElem hltj⟩
       have hat3 := cZ (f := aS) hxj
       have hkm := Hz skip hxj n0
       obtain ⟨mt, mnm, mps, mb⟩ := me
       simp only [aS] at hat3
       obtain ⟨M0, hM0⟩ : ∃ M0, iy skip n0 (cms.take j) = M0 := ⟨_, rfl⟩
       have hM0l : M0.length ≤ 1048576 := by rw [← hM0, wP, List.length_take]; omega
       rw [hM0] at hkm ⊢
       by_cases e : ((n0 + j : Nat) : Int) = skip
       ·rw [if_pos e] at hkm
        have ed : decide (((n0 + j : Nat) : Int) = skip) = true := by simpa using e
        repeat (first | refine W.q ?_ | refine W.g ?_ (by simp only [exb, simprocAttr, hat3, ed, Bool.not_true]; rfl))
        refine W.cond rfl (fun h => absurd h (by decide)) (fun _ => ?_)
        refine W.go ?_
        (repeat (first | refine W.seq ?_ | refine W.block ?_ | refine W.skip ?_ | refine W.exit ?_))
        refine W.ak ah 0 (by decide) ?_
        refine xs0 4 ?_
        refine fu ah 200 rfl rfl rfl rfl rfl rfl rfl rfl Fz rfl rfl rfl rfl (ku hkeep) (by simp) OQ (by decide) ?_
        refine xe0 ?_
        refine W.go ?_
        refine ⟨j + 1, hltj, by omega, ?_⟩
        rw [hkm]
        refine nK ?sle ?mle (aI hkeep)
        case mle => repeat (first | exact aZ _ | exact aC _ | refine aY ?_ (by first | rfl | (simp only [av, aL, Nat.reduceEqDiff, reduceIte, O.kill, A.kill, aM, Option.map_some, List.map_append, List.map_cons, List.map_nil, aS, bJ, show n0 + (j + 1) = n0 + j + 1 by omega, aR (show n0 + j + 1 < 9223372036854775808 by omega), aR (show j + 1 < 9223372036854775808 by omega)]; done)))
        case sle => repeat (first | exact aQ _ | exact aK _ | refine aP ?_ (by first | rfl | (simp only [av, aN, aO, Nat.reduceEqDiff, reduceIte, O.kill, A.kill, aM, Option.map_some, List.map_append, List.map_cons, List.map_nil, aS, bJ, show n0 + (j + 1) = n0 + j + 1 by omega, aR (show n0 + j + 1 < 9223372036854775808 by omega), aR (show j + 1 < 9223372036854775808 by omega)]; done)))
       ·rw [if_neg e] at hkm
        have ed : decide (((n0 + j : Nat) : Int) = skip) = false := by simpa using e
        repeat (first | refine W.q ?_ | refine W.g ?_ (by simp only [exb, simprocAttr, hat3, ed, Bool.not_false]; rfl))
        refine W.cond rfl (fun _ => ?_) (fun h => absurd h (by decide))
        refine W.go ?_
        (repeat (first | refine W.seq ?_ | refine W.block ?_ | refine W.skip ?_ | refine W.exit ?_))
        refine W.ak ah 0 (by decide) ?_
        refine xs0 4 ?_
        refine fu ah 200 rfl rfl rfl rfl rfl rfl rfl rfl Fz rfl rfl rfl rfl (ku hkeep) (by simp) OQ (by decide) ?_
        refine xe0 ?_
        refine W.go ?_
        refine ⟨j + 1, hltj, by omega, ?_⟩
        rw [hkm]
        refine nK ?sle ?mle (aI hkeep)
        case mle => repeat (first | exact aZ _ | exact aC _ | refine aY ?_ (by first | rfl | (simp only [av, aL, Nat.reduceEqDiff, reduceIte, O.kill, A.kill, aM, Option.map_some, List.map_append, List.map_cons, List.map_nil, fO, aS, bJ, show n0 + (j + 1) = n0 + j + 1 by omega, aR (show n0 + j + 1 < 9223372036854775808 by omega), aR (show j + 1 < 9223372036854775808 by omega)]; done)))
        case sle => repeat (first | exact aQ _ | exact aK _ | refine aP ?_ (by first | rfl | (simp only [av, aN, aO, Nat.reduceEqDiff, reduceIte, O.kill, A.kill, aM, Option.map_some, List.map_append, List.map_cons, List.map_nil, fO, aS, bJ, show n0 + (j + 1) = n0 + j + 1 by omega, aR (show n0 + j + 1 < 9223372036854775808 by omega), aR (show j + 1 < 9223372036854775808 by omega)]; done)))
      ·intro hgej
       replace hgej := dnl hgej
       obtain rfl : j = cms.length := by omega
       rw [List.take_length]
       refine W.go ?_
       (repeat (first | refine W.seq ?_ | refine W.block ?_ | refine W.skip ?_ | refine W.exit ?_))
       refine W.ak ah 0 (by decide) ?_
       refine xs0 4 ?_
       refine fu ah 201 rfl rfl rfl rfl rfl rfl rfl rfl Fz rfl rfl rfl rfl (ku hkeep) (by simp) OQ (by decide) ?_
       refine xe0 ?_
       refine W.go ?_
       refine ⟨k + 1, hltk, by omega, ?_⟩
       rw [hkc, hnn]
       refine nK ?sle ?mle (aI hkeep)
       case mle => repeat (first | exact aZ _ | exact aC _ | refine aY ?_ (by first | rfl | (simp only [av, aL, Nat.reduceEqDiff, reduceIte, O.kill, A.kill, aM, Option.map_some, List.map_append, List.map_cons, List.map_nil, ay, aR (show k + 1 < 9223372036854775808 by omega)]; done)))
       case sle => repeat (first | exact aQ _ | exact aK _ | refine aP ?_ (by first | rfl | (simp only [av, aN, aO, Nat.reduceEqDiff, reduceIte, O.kill, A.kill, aM, Option.map_some, List.map_append, List.map_cons, List.map_nil, ay, aR (show k + 1 < 9223372036854775808 by omega)]; done)))
    ·intro hgek
     replace hgek := dnl hgek
     obtain rfl : k = cs.length := by omega
     rw [List.take_length, hN]
     have hq := hCq skip
     by_cases hs0 : skip < 0
     ·have hsd : decide (skip < 0) = true := by simpa using hs0
      have hcq : dz (jr ⟨cs, mn⟩ skip) = [.sl ((iU skip 0 cs).map ay), .sl (bJ mn)] := by unfold jr; rw [if_pos hs0]; rfl
      rw [hcq] at hq
      have hge0 : decide ((N : Int) ≤ skip) = false := by simp; omega
      repeat (first | refine W.q ?_ | refine W.g ?_ QF)
      refine W.cond rfl (fun _ => ?_) (fun h => absurd h (by decide))
      repeat (first | refine W.q ?_ | refine W.g ?_ N8)
      refine W.cond rfl (fun h => absurd h (by decide)) (fun _ => ?_)
      by_cases h40 : 40 < N
      ·have hd : decide ((40 : Int) < (N : Int)) = true := by simp; omega
       repeat (first | refine W.q ?_ | refine W.g ?_ KV)
       refine W.cond rfl (fun _ => ?_) (fun h => absurd h (by decide))
       refine W.go ?_
       exact W.ret ⟨.inr rfl, by rfl, JL⟩
      ·have hd : decide ((40 : Int) < (N : Int)) = false := by simp; omega
       repeat (first | refine W.q ?_ | refine W.g ?_ KV)
       refine W.cond rfl (fun h => absurd h (by decide)) (fun _ => ?_)
       have hwr : IntKind.i64.wrap (skip + 1) = ((i + 1 : Nat) : Int) - 1 := by
        rw [← hsk, show (i : Int) - 1 + 1 = (i : Int) by omega, show ((i + 1 : Nat) : Int) - 1 = (i : Int) by omega]
        exact q9 (by omega)
       cases ho : okv ⟨cs, mn⟩ i with
       | false =>
         repeat (first | refine W.q ?_ | refine W.g ?_ II)
         refine ⟨i + 1, ⟨by omega, fun _ => ⟨by omega, by omega⟩⟩, by omega, ?_⟩
         rw [vk, ho, Bool.false_and]
         refine nK ?sle ?mle (aI hkeep)
         case mle => repeat (first | exact aZ _ | exact aC _ | refine aY ?_ PZ)
         case sle => repeat (first | exact aQ _ | exact aK _ | refine aP ?_ Oj)
       | true =>
         (repeat (first | refine W.seq ?_ | refine W.block ?_ | refine W.skip ?_ | refine W.exit ?_))
         refine W.ak ah 0 (by decide) ?_
         refine xs0 3 ?_
         refine au rfl rfl rfl rfl rfl (by simp) cw1 (hq _) ?_
         refine xe0 ?_
         repeat (first | refine W.q ?_ | refine W.g ?_ II)
         refine ⟨i + 1, ⟨by omega, fun _ => ⟨by omega, by omega⟩⟩, by omega, ?_⟩
         rw [vk, ho, Bool.true_and, hsk]
         refine nK ?sle ?mle (aI hkeep)
         case mle => repeat (first | exact aZ _ | exact aC _ | refine aY ?_ PZ)
         case sle => repeat (first | exact aQ _ | exact aK _ | refine aP ?_ Oj)
     ·have hsd : decide (skip < 0) = false := by simpa using hs0
      have hcq : dz (jr ⟨cs, mn⟩ skip) = [.sl ((iU skip 0 cs).map ay), .sl []] := by unfold jr; rw [if_neg hs0]; rfl
      rw [hcq] at hq
      obtain ⟨hN1, hN2⟩ := hiN (by omega)
      repeat (first | refine W.q ?_ | refine W.g ?_ QF)
      refine W.cond rfl (fun h => absurd h (by decide)) (fun _ => ?_)
      by_cases hge : (N : Int) ≤ skip
      ·have hge0 : decide ((N : Int) ≤ skip) = true := by simpa using hge
       have hi1 : i = N + 1 := by omega
       repeat (first | refine W.q ?_ | refine W.g ?_ N8)
       refine W.cond rfl (fun _ => ?_) (fun h => absurd h (by decide))
       refine W.go ?_
       have hov := I6 ⟨cs, mn⟩ hE
       rw [show gG (⟨cs, mn⟩ : Program).classes = N from hN, ← hi1] at hov
       (repeat (first | refine W.seq ?_ | refine W.block ?_ | refine W.skip ?_ | refine W.exit ?_))
       refine W.ak ah 0 (by decide) ?_
       cases ho : okv ⟨cs, mn⟩ i with
       | false =>
         rw [ho] at hov
         refine xs0 4 ?_
         refine au rfl rfl rfl rfl rfl (by simp) cw1 (hCp _) ?_
         refine aA Og ?_
         refine W.go ?_
         exact W.ret ⟨.inr rfl, by rfl, JL⟩
       | true =>
         rw [ho] at hov
         refine xs0 4 ?_
         refine au rfl rfl rfl rfl rfl (by simp) cw1 (hCp _) ?_
         refine aA Og ?_
         refine W.go ?_
         exact W.ret ⟨.inr rfl, by rfl, JL⟩
      ·have hge0 : decide ((N : Int) ≤ skip) = false := by simpa using hge
       have hd : decide ((40 : Int) < (N : Int)) = false := by simp; omega
       repeat (first | refine W.q ?_ | refine W.g ?_ N8)
       refine W.cond rfl (fun h => absurd h (by decide)) (fun _ => ?_)
       repeat (first | refine W.q ?_ | refine W.g ?_ KV)
       refine W.cond rfl (fun h => absurd h (by decide)) (fun _ => ?_)
       have hwr : IntKind.i64.wrap (skip + 1) = ((i + 1 : Nat) : Int) - 1 := by
        rw [← hsk, show (i : Int) - 1 + 1 = (i : Int) by omega, show ((i + 1 : Nat) : Int) - 1 = (i : Int) by omega]
        exact q9 (by omega)
       cases ho : okv ⟨cs, mn⟩ i with
       | false =>
         repeat (first | refine W.q ?_ | refine W.g ?_ II)
         refine ⟨i + 1, ⟨by omega, fun _ => ⟨by omega, by omega⟩⟩, by omega, ?_⟩
         rw [vk, ho, Bool.false_and]
         refine nK ?sle ?mle (aI hkeep)
         case mle => repeat (first | exact aZ _ | exact aC _ | refine aY ?_ PZ)
         case sle => repeat (first | exact aQ _ | exact aK _ | refine aP ?_ Oj)
       | true =>
         (repeat (first | refine W.seq ?_ | refine W.block ?_ | refine W.skip ?_ | refine W.exit ?_))
         refine W.ak ah 0 (by decide) ?_
         refine xs0 3 ?_
         refine au rfl rfl rfl rfl rfl (by simp) cw1 (hq _) ?_
         refine xe0 ?_
         repeat (first | refine W.q ?_ | refine W.g ?_ II)
         refine ⟨i + 1, ⟨by omega, fun _ => ⟨by omega, by omega⟩⟩, by omega, ?_⟩
         rw [vk, ho, Bool.true_and, hsk]
         refine nK ?sle ?mle (aI hkeep)
         case mle => repeat (first | exact aZ _ | exact aC _ | refine aY ?_ PZ)
         case sle => repeat (first | exact aQ _ | exact aK _ | refine aP ?_ Oj)
  ·intro hge
   simp only [decide_eq_false_iff_not] at hge
   obtain ⟨h1, h2⟩ := hiN (by omega)
   have hi1 : i = N + 1 := by omega
   refine W.go ?_
   have hov := I6 ⟨cs, mn⟩ hE
   rw [show gG (⟨cs, mn⟩ : Program).classes = N from hN, ← hi1] at hov
   (repeat (first | refine W.seq ?_ | refine W.block ?_ | refine W.skip ?_ | refine W.exit ?_))
   refine W.ak ah 0 (by decide) ?_
   cases ho : okv ⟨cs, mn⟩ i with
   | false =>
     rw [ho] at hov
     refine xs0 4 ?_
     refine au rfl rfl rfl rfl rfl (by simp) cw1 (hCp _) ?_
     refine aA Og ?_
     refine W.go ?_
     exact W.ret ⟨.inr rfl, by rfl, JL⟩
   | true =>
     rw [ho] at hov
     refine xs0 4 ?_
     refine au rfl rfl rfl rfl rfl (by simp) cw1 (hCp _) ?_
     refine aA Og ?_
     refine W.go ?_
     exact W.ret ⟨.inr rfl, by rfl, JL⟩
theorem MR.Rb {w0 w : World} {I0 I : Nat → Nat → Prop} {B : Nat → Value} {m : Mem} (hm : MR w0 I0 B I m w) {j b : Nat} {ty : TypeId} {x : A} {z : Int} (hj : m j = some (.box ty [x])) (hB : B j = .pointer (some ⟨b, 0, none⟩)) (hz : (Lit.int .i64 z).wf = true) :
 (∃ u, w.cell? ⟨b, 0, none⟩ = some u) ∧ w.frozen? ⟨b, 0, none⟩ = false ∧ MR w0 I0 B I (upd m j (some (.box ty [.c (.int .i64 z)]))) (w.setCell ⟨b, 0, none⟩ (.int .i64 z)) ∧ Ext w (w.setCell ⟨b, 0, none⟩ (.int .i64 z)) I I := by
 obtain ⟨b', vs, h1, h2, h3, h4⟩ := hm.objs j _ hj
 rw [hB] at h1
 obtain rfl : b = b' := by cases h1; rfl
 match vs, h3 with
 | [u], ⟨⟨hu, hc⟩, _⟩ =>
   have hlt := (Array.getElem?_eq_some_iff.1 h2).1
   have hset : (w.setCell ⟨b, 0, none⟩ (.int .i64 z)).heap[b]? = some (.cells ([.int .i64 z] : List Value).toArray ty) := by
    simp only [World.setCell, Array.getElem?_modify, if_true, h2]
    rfl
   have ht := hm.turn (w' := w.setCell ⟨b, 0, none⟩ (.int .i64 z)) (j := j) (b := b) (o' := .box ty [.c (.int .i64 z)]) hj ⟨0, hB⟩ (fun k hk => by
    obtain ⟨off, hk⟩ := hk
    rw [hB] at hk; cases hk; rfl) h4 rfl rfl rfl (by simp [World.setCell]) (fun k hk => Below.heap_setCell w ⟨b, 0, none⟩ _ k hk) (fun i hi => by simp [O.ids, A.ids] at hi) (fun hE => ⟨b, [.int .i64 z], hB, hset, ⟨⟨.int hz, rfl⟩, trivial⟩, h4⟩)
   refine ⟨⟨u, by simp [World.cell?, h2]⟩, by simp [World.frozen?, h2], ht.1, ht.2⟩
theorem W.EZ {P : Go.Program} {R : Ref} {n : Nat} {ds : List Deferred} {st : St} {K : Exit → St → Prop} {id : Nat} {o : Oper} {c : Call} {g : FuncId} {x : Operand} {j : Nat} (hw : fE #[o] o st.s = some true) (hop : o.op = .defer c) (hc : c.callee = .value (.func g)) (ha : c.args = #[x]) (hd : o.dst = none) (hx : ev st.s x = .ptr j 0)
 (h : ∀ v, K .normal ⟨upd (upd st.s DID (.defs ({ target := .fn (.func g) #[], args := #[v] } :: dfs (st.s DID)))) (DID + 1) (.pinP v j 0), st.m⟩) : W P R n ds st (.region id #[o] false) K := fun a w hr => by
 obtain ⟨B, I, hm, hx0, hkp, hs⟩ := hr.ex
 refine wp_region ?_
 show wpOps P #[o] _ [0] a w
 rw [wpOps_cons]
 unfold wpOp
 have hwt := fP hs hw
 simp only [List.getElem?_toArray, List.getElem?_cons_zero]
 rw [if_pos hwt]
 refine .inl ?_
 unfold Oper.wp Oper.upon
 have hrun : (execOp a.eval o).run P w = .ok (.defer { target := .fn (.func g) #[], args := #[a.eval x] }) w := by
  simp only [execOp, hop, resolve, hc, ha, Act.eval, Deferred.ofValue, Sem.run_bind, Sem.run_pure, Result.andThen_ok]
  simp [Act.eval]
 rw [hrun]
 have hv := iK hs x
 rw [hx] at hv
 obtain ⟨b, hB, hv⟩ := hv
 have hput : ({ a with defers := { target := .fn (.func g) #[], args := #[a.eval x] } :: a.defers } : Act).put o.dst undef = { a with defers := { target := .fn (.func g) #[], args := #[a.eval x] } :: a.defers } := by rw [hd]; rfl
 show wpOps P #[o] _ [] _ _
 rw [hput]
 refine ⟨_, h (a.eval x), ⟨B, I, hm, hx0, hkp, fun t => ?_⟩, fun t i hi => ?_, hr.size, hr.nn, ?_, hr.kept⟩
 ·show RV B w I (upd (upd st.s DID _) (DID + 1) _ t) (a.tmps.getD t undef)
  by_cases e : t = DID + 1
  ·subst e; rw [upd_same]; exact ⟨b, hB, hv⟩
  ·rw [upd_ne _ _ e]
   by_cases e2 : t = DID
   ·subst e2; rw [upd_same]; trivial
   ·rw [upd_ne _ _ e2]; exact hs t
 ·have hi : i ∈ (upd (upd st.s DID _) (DID + 1) _ t).ids := hi
  by_cases e : t = DID + 1
  ·subst e
   rw [upd_same] at hi
   simp [A.ids] at hi; subst hi
   have := hr.wf
   cases x with
   | tmp q =>
     have hx : st.s q = .ptr i 0 := hx
     exact hr.ids q i (by rw [hx]; simp [A.ids])
   | const u => exfalso; simp only [ev] at hx; unfold ofConst at hx; (repeat' split at hx) <;> cases hx
   | global q => simp [ev] at hx
   | func q => simp [ev] at hx
  ·rw [upd_ne _ _ e] at hi
   by_cases e2 : t = DID
   ·subst e2; rw [upd_same] at hi; simp [A.ids] at hi
   ·rw [upd_ne _ _ e2] at hi; exact hr.ids t i hi
 ·have e : (upd (upd st.s DID (.defs ({ target := .fn (.func g) #[], args := #[a.eval x] } :: dfs (st.s DID)))) (DID + 1) (.pinP (a.eval x) j 0)) DID = .defs ({ target := .fn (.func g) #[], args := #[a.eval x] } :: dfs (st.s DID)) := by
   rw [upd_ne _ _ (by decide), upd_same]
  show _ :: a.defers = dfs ((upd (upd st.s DID (.defs ({ target := .fn (.func g) #[], args := #[a.eval x] } :: dfs (st.s DID)))) (DID + 1) (.pinP (a.eval x) j 0)) DID) ++ ds
  rw [e, hr.defs]; rfl
theorem MR.cellOf {w0 w : World} {I0 I : Nat → Nat → Prop} {B : Nat → Value} {m : Mem} (hm : MR w0 I0 B I m w) {j b : Nat} {ty : TypeId} {n : Int} (hj : m j = some (.box ty [.c (.int .i64 n)])) (hB : B j = .pointer (some ⟨b, 0, none⟩)) : w.cell? ⟨b, 0, none⟩ = some (.int .i64 n) := by
 obtain ⟨b', vs, h1, h2, h3, h4⟩ := hm.objs j _ hj
 rw [hB] at h1
 obtain rfl : b = b' := by cases h1; rfl
 match vs, h3 with
 | [u], ⟨⟨hu, hc⟩, _⟩ =>
   have hu : RC w I u (.int .i64 n) := hu
   cases hu
   simp [World.cell?, h2]
theorem FB {T : Tab} (hT : T.Ok Tryz.prog) {f : FuncId} {fn : Func} {c : Code} {l : List ResultVar} {args : List A} {r : A} (hf : (Tryz.prog).funcs[f]? = some fn) (hn : (fn.name == "runtime.NumGoroutine") = false) (hb : fn.body = some c) (hl : fn.results.toList = l) (hd : args.all (fun a => a.ids.isEmpty && !(match a with | .defs _ => true | _ => false)) = true) (hr : r.ids = []) (hle : decide (args.length ≤ fn.ntmps ∧ fn.ntmps ≤ DID) = true)
 (hW : ∀ R : Ref, R.keep = (fun _ => False) → W Tryz.prog R fn.ntmps [] ⟨entry args, Mem.nil⟩ c (fun e st => ((e = .normal ∨ e = .ret) ∧ dfs (st.s DID) = [] ∧ bE T st l = some r) ∨
   ∃ v j, dfs (st.s DID) = [{ target := .fn (.func 13) #[], args := #[v] }] ∧ st.s (DID + 1) = .pinP v j 0 ∧
     (((e = .normal ∨ e = .ret) ∧ bE T st l = some r) ∨ (e = .panic dJ ∧ ∃ ty n, st.m j = some (.box ty [.c (.int .i64 n)]) ∧ bE T ⟨st.s, upd st.m j (some (.box ty [.c (.int .i64 70)]))⟩ l = some r)))) (m : Mem) : COk Tryz.prog f args m r := by
 refine ⟨enters_of hf hn hb, hr, fun m' _ => ?_⟩
 intro w0 I0 B I w vals hm hv
 have hlen := lZ hv
 have hids : ∀ a ∈ args, a.ids = [] := fun a ha => by have := List.all_eq_true.1 hd a ha; simp only [Bool.and_eq_true] at this; simpa using this.1
 have hdf : ∀ a ∈ args, ∀ l, a ≠ .defs l := fun a ha l e => by have := List.all_eq_true.1 hd a ha; subst e; simp at this
 obtain ⟨hle1, hle2⟩ := of_decide_eq_true hle
 refine calls_of_wp_defers hf hb ?_
 have h0 : SR ⟨w, I, w, I, B, fun _ => False⟩ fn.ntmps [] ⟨entry args, Mem.nil⟩ { tmps := vals.toArray ++ Array.replicate (fn.ntmps - vals.toArray.size) undef, defers := [] } w := by
  refine ⟨⟨B, I, ⟨Below.refl _ _, hm.pO, fun _ _ h => h, fun _ _ h => .inl h, hm.there, fun _ _ h => absurd h (bO _), fun _ _ h => absurd h (bO _), fun _ _ _ _ h => absurd h (bO _), fun _ _ h => absurd h (bO _)⟩, Ext.refl _ _, fun _ _ => rfl, j4 hv⟩, fun t j hj => ?_, by simp [hlen]; omega, hle2, by rw [show dfs ((⟨entry args, Mem.nil⟩ : St).s DID) = [] from j6 hdf]; rfl, fun j hj => hj.elim⟩
  simp only [entry, List.getD_eq_getElem?_getD] at hj
  cases hx : args[t]? with
  | none => rw [hx] at hj; simp [A.ids] at hj
  | some a => rw [hx] at hj; simp [hids a (List.mem_of_getElem? hx)] at hj
 refine wp_mono (hW _ rfl _ w h0) ?_
 rintro e a' w' ⟨st', hres, hsr⟩
 obtain ⟨⟨B', I', hm', hx', -, hs'⟩, -, -, -, hds, -⟩ := hsr
 -- what is handed back, out of what the result variables hold
 have hand : ∀ (w2 : World) (st2 : St), (MR w I B' I' st2.m w2) → (∀ t, RV B' w2 I' (st2.s t) (a'.tmps.getD t undef)) → bE T st2 l = some r →
  ∃ v, (results fn a'.tmps).run Tryz.prog w2 = .ok v w2 ∧ ∃ v' I', Ending.returned v = .returned v' ∧ Below w.heap.size w w2 ∧ (∀ b o, I b o → I' b o) ∧ (∀ b o, I' b o → I b o ∨ (w.heap.size ≤ b ∧ b < w2.heap.size)) ∧ RV B w2 I' r v' := by
  intro w2 st2 hm2 hs2 hres2
  obtain ⟨v, h1, h2, h3⟩ := uw (st := st2) hT hm2 hs2 hl hres2
  exact ⟨v, h1, v, I', rfl, hm2.below, hm2.base, fun b o h => (hm2.old b o h).imp id fun k => ⟨k, hm2.there b o h⟩, h2.mono (Ext.refl _ _) fun j hj => by rw [h3] at hj; simp at hj⟩
 have hinv : ∀ (v : Value) (w : World), (invoke (.fn (.func 13) #[]) #[v]).run Tryz.prog w = .ok (.enter 13 #[v]) w := fun v w => by
  simp [invoke]
 rcases hres with ⟨he, hdn, hres⟩ | ⟨v, j, hdn, hpin, hres⟩
 ·rw [hdn] at hds
  have hds : a'.defers = [] := hds
  have key := hand w' st' hm' hs' hres
  rcases he with rfl | rfl <;> (show Leaves _ _ _ _ _ _ _; rw [hds]; exact key)
 ·rw [hdn] at hds
  have hds : a'.defers = [{ target := .fn (.func 13) #[], args := #[v] }] := hds
  rcases hres with ⟨he, hres⟩ | ⟨rfl, ty, n, hj, hres⟩
  ·have key := hand w' st' hm' hs' hres
   have key2 : Leaves Tryz.prog fn a'.tmps (fun e w' => ∃ v I', e = .returned v ∧ Below w.heap.size w w' ∧ (∀ b o, I b o → I' b o) ∧ (∀ b o, I' b o → I b o ∨ (w.heap.size ≤ b ∧ b < w'.heap.size)) ∧ RV B w' I' r v) a'.defers .returning w' := by
    rw [hds]
    refine leaves_cons (by simp) (hinv v w') (CallsD.mono (Kr v w') ?_)
    rintro e u' w'' ⟨rfl, rfl, rfl⟩
    exact key
   rcases he with rfl | rfl <;> exact key2
  ·have hp := hs' (DID + 1)
   rw [hpin] at hp
   obtain ⟨b0, hp1, hp2⟩ := hp
   cases hp2
   have hcell := hm'.cellOf hj hp1
   obtain ⟨-, hfz, hm2, hE2⟩ := hm'.Rb (z := 70) hj hp1 (by decide)
   show Leaves _ _ _ _ _ _ _
   rw [hds]
   refine leaves_cons (by simp [dJ]) (hinv _ w') (CallsD.mono (D9 b0 n w' hcell hfz []) ?_)
   rintro e u' w'' ⟨rfl, rfl, o, rfl⟩
   have hb2 : Below (w'.setCell ⟨b0, 0, none⟩ (.int .i64 70)).heap.size (w'.setCell ⟨b0, 0, none⟩ (.int .i64 70)) ((w'.setCell ⟨b0, 0, none⟩ (.int .i64 70)).alloc o) := (Below.refl _ _).alloc (Nat.le_refl _) o
   have hm3 := hm2.call hb2
   exact hand _ ⟨st'.s, upd st'.m j (some (.box ty [.c (.int .i64 70)]))⟩ hm3 (fun t => (hs' t).mono (hE2.trans (hm2.ext hb2 (fun _ _ k => k))) fun _ _ => rfl) hres
section
variable {P : Go.Program} {T : Tab} {kp : Nat → Prop} {base : Nat} {ops : Array Oper} {K : St → Prop}
end
def F9 (ops : Array Oper) (listed : Array Bool) (i : Nat) : Bool := match ops[i]? with
 | some oi => (List.range ops.size).all fun j => j == i || listed.getD j true || (match ops[j]? with | some oj => (oj.after.any fun e => Region.binds .any e && e.on == i) || oi.apart ops oj | none => true)
 | none => false
def Ll (ops : Array Oper) : Bool := ops.all fun o => match o.op with | .select _ _ => false | _ => true
def RX (P : Go.Program) (R : Ref) (n : Nat) (ds : List Deferred) (ops : Array Oper) (K : St → Prop) (f : Nat) (listed : Array Bool) (st : St) : Prop :=
 listed.size = ops.size → mh ops listed → ∀ a w, SR R n ds st a w → wpAny P .any ops (fun e a w => ∃ st', (e = Exit.normal ∧ K st') ∧ SR R n ds st' a w) f listed a w
section
variable {P : Go.Program} {T : Tab} {R : Ref} {n : Nat} {ds : List Deferred} {base : Nat} {ops : Array Oper} {K : St → Prop}
theorem IZ (hT : T.Ok P) (hd : jM n ops = true) {f : Nat} {listed : Array Bool} {st : St} (h : mU P T R.keep base ops K f listed st) : RX P R n ds ops K f listed st := fun h1 h2 a w hr =>
 zf hT (gB hd) (fun st' a w hk hr' => ⟨st', ⟨rfl, hk⟩, hr'⟩) _ _ st a _ (h h1 h2 hr.wf) hr
theorem Pd (hT : T.Ok P) (hd : jM n ops = true) (hns : Ll ops = true) {f : Nat} {listed : Array Bool} {st : St} (i : Nat) {o : Oper} (ho : ops[i]? = some o) (hpu : ∀ a w, SR R n ds st a w → ∃ v, ∀ w', (execOp a.eval o).run P w' = .ok (.value v) w') (hg : o.guard = none) (hi : (Region.ready .any ops listed).contains i = true) (hap : F9 ops listed i = true)
 (h : ∃ st1, uH T base ops i st = some st1 ∧ RX P R n ds ops K f (listed.setIfInBounds i true) st1) : RX P R n ds ops K (f + 1) listed st := by
 intro hsz hc a w hr
 obtain ⟨st1, h1, h2⟩ := h
 have hi : i ∈ Region.ready .any ops listed := by simpa using hi
 obtain ⟨o', ho', hs⟩ := Bb (P := P) (kp := R.keep) h1
 rw [ho] at ho'; cases ho'
 have hwant : ∀ a : Act, Region.wanted o (yielded ops a.tmps) = true := fun a => by simp [Region.wanted, hg]
 obtain ⟨v, hrun⟩ := hpu a w hr
 have hgo := hs.snd hT hr (hd := fun d e => gB hd o (Array.mem_of_getElem? ho) d e) (K := fun a' w' => SR R n ds st1 a' w') (Q := fun _ _ _ => False) (fun a' w' hr' => hr')
 rw [if_pos (hwant a)] at hgo
 unfold Oper.wp at hgo
 rw [hrun] at hgo
 refine wpAny_first (oi := o) (v := v) ho (fun j oj cs b hj e => ?_) (fun c a w hq => by obtain ⟨_, ⟨hq, -⟩, -⟩ := hq; cases hq) f listed a w (fun j oj hj hji hl hne => ?_) hi (.inl ⟨hwant a, hrun⟩) (h2 Cg (pV hsz hc hi) _ _ hgo)
 ·have := Array.all_eq_true.1 hns j (Array.getElem?_eq_some_iff.1 hj).1
  rw [(Array.getElem?_eq_some_iff.1 hj).2, e] at this
  cases this
 ·unfold F9 at hap
  rw [ho] at hap
  have hlt := (Array.getElem?_eq_some_iff.1 hj).1
  have := List.all_eq_true.1 hap j (List.mem_range.2 hlt)
  simp only [Bool.or_eq_true, beq_iff_eq, hj] at this
  rcases this with (z | z) | z | z
  ·exact absurd z hji
  ·rw [Array.getD_eq_getD_getElem?] at z hl
   rw [hl] at z; cases z
  ·obtain ⟨q, hq, hz⟩ := Array.any_eq_true'.1 z
   simp only [Bool.and_eq_true, beq_iff_eq] at hz
   exact absurd hz.2 (hne q hq hz.1)
  ·exact z
theorem yN (hT : T.Ok P) (hd : jM n ops = true) (hns : Ll ops = true) {f : Nat} {listed : Array Bool} {st : St} (i : Nat) {o : Oper} {x : Operand} (ho : ops[i]? = some o) (hop : o.op = .move x) (hg : o.guard = none) (hi : (Region.ready .any ops listed).contains i = true) (hap : F9 ops listed i = true)
 (h : ∃ st1, uH T base ops i st = some st1 ∧ RX P R n ds ops K f (listed.setIfInBounds i true) st1) : RX P R n ds ops K (f + 1) listed st :=
 Pd hT hd hns i ho (fun a w _ => ⟨a.eval x, fun w' => by simp [execOp, hop]⟩) hg hi hap h
theorem W.Jl (hT : T.Ok P) {id : Nat} {st : St} {Kx : Exit → St → Prop} (hm : P.follows .mixedOrders = true) (can : St) (h : RX P R n ds ops (fun st' => Le R.keep st' can) ops.size (Array.replicate ops.size false) st) (hK : ∀ st', Le R.keep st' can → Kx .normal st') : W P R n ds st (.region id ops true) Kx := by
 intro a w hr
 have hx := h (by simp) (xY rfl) a { w with drawn := w.drawn + 1 } (by
  obtain ⟨⟨B, I, hmr, hx0, hkp, hs⟩, h2, h3, hnn, h4, h5⟩ := hr
  have hE : Ext w w.drew I I := ⟨fun _ _ k => k, fun _ _ _ => rfl⟩
  exact ⟨⟨B, I, hmr.call (Below.refl _ _).drew, hx0.trans hE, hkp, fun t => (hs t).mono hE fun _ _ => rfl⟩, h2, h3, hnn, h4, h5⟩)
 exact wp_mono (wp_region_any hm hx) fun e a w ⟨st', ⟨he, hk⟩, hs⟩ => ⟨st', he ▸ hK st' hk, hs⟩
end
def EX (M : Mem) (ok : Bool) : Option (A × Mem) := if ok = true then some (.tup [], M) else none
theorem P5 {M : Mem} {e i j k : Nat} {x y z z' w : Option O} (hij : j ≠ i) (hjk : j ≠ k) (hje : j ≠ e) (hie : i ≠ e) (hj : M j = none) : MLe (upd (upd (upd (upd (upd M e x) i y) k z) j w) k z') (upd (upd (upd M e x) i y) k z') := fun u => by
 by_cases h1 : u = k
 ·subst h1; exact .inr (by rw [upd_same, upd_same])
 ·by_cases h2 : u = j
  ·subst h2; exact .inl (by rw [upd_ne _ _ h1, upd_ne _ _ hij, upd_ne _ _ hje]; exact hj)
  ·exact .inr (by rw [upd_ne _ _ h1, upd_ne _ _ h1, upd_ne _ _ h2, upd_ne _ _ h1])
def Ov (M : Mem) (e : Nat) (m : Mem) : Prop := ∀ u, u ≠ e → M u = none ∨ m u = M u
theorem Pf {M : Mem} {e : Nat} : Ov M e M := fun u _ => .inr rfl
theorem Tq {M m : Mem} {e : Nat} {x : Option O} (h : Ov M e m) : Ov M e (upd m e x) := fun u hu => by rw [upd_ne _ _ hu]; exact h u hu
theorem Rf {M m : Mem} {e i : Nat} {x : Option O} (hi : M i = none) (h : Ov M e m) : Ov M e (upd m i x) := fun u hu => by
 by_cases h1 : u = i
 ·subst h1; exact .inl hi
 ·rw [upd_ne _ _ h1]; exact h u hu
theorem Db {M m : Mem} {c0 e : Nat} (h : Ov M e m) : MLe m (upd (upd M c0 none) e none) := fun u => by
 by_cases h1 : u = e
 ·subst h1; exact .inl (upd_same ..)
 ·rw [upd_ne _ _ h1]
  by_cases h2 : u = c0
  ·subst h2; exact .inl (upd_same ..)
  ·rw [upd_ne _ _ h2]
   rcases h u h1 with h | h
   ·exact .inl h
   ·exact .inr h.symm
theorem Qq {M m : Mem} {c0 e : Nat} (h : Ov M e m) : MLe (upd (upd m c0 none) e none) (upd (upd M c0 none) e none) := fun u => by
 by_cases h1 : u = e
 ·subst h1; exact .inl (upd_same ..)
 ·rw [upd_ne _ _ h1, upd_ne _ _ h1]
  by_cases h2 : u = c0
  ·subst h2; exact .inl (upd_same ..)
  ·rw [upd_ne _ _ h2, upd_ne _ _ h2]
   rcases h u h1 with h | h
   ·exact .inl h
   ·exact .inr h.symm
def vJ : Tab := { tab with eff := fun f => f == 51 }
theorem BB.ah : vJ.Ok Tryz.prog := ⟨V.ah.ty, V.ah.zero, V.ah.elem, V.ah.off, V.ah.bool, V.ah.fields, V.ah.bytes, V.ah.nilk, V.ah.int, V.ah.map, V.ah.str, V.ah.one, V.ah.seq⟩
theorem BB.tabs : vJ.ty = tab.ty ∧ vJ.zero = tab.zero ∧ vJ.elem = tab.elem ∧ vJ.off = tab.off ∧ vJ.bool = tab.bool ∧ vJ.fields = tab.fields ∧ vJ.bytes = tab.bytes ∧ vJ.nilk = tab.nilk ∧ vJ.int = tab.int ∧ vJ.map = tab.map ∧ vJ.str = tab.str ∧ vJ.one = tab.one ∧ vJ.seq = tab.seq := ⟨rfl, rfl, rfl, rfl, rfl, rfl, rfl, rfl, rfl, rfl, rfl, rfl, rfl⟩
section
variable (p : Program) (inn ret : ByteArray) (hS : gN p.classes) (hB : mZ p.classes) (hlen : p.classes.length ≤ 16) (hchk : ∀ m, COk Tryz.prog 12 [.agg (dz p)] m (.c (.int .i64 0)))
include hS hB hlen hchk
set_option maxHeartbeats 8000000 in
theorem F8 : ∀ (n : Nat) (l : List Stmt), SizeOf.sizeOf l ≤ n → kH l → ∀ (env : List Slot), env.length + jN l ≤ 100000000 → ∀ (M : Mem) (b c0 e : Nat), (∀ d, M (b + d) = none) →
 M c0 = some (.box 53 [.c (.sl (p.classes.map ay)), .c (.sl (bJ p.main)), .c (.str inn), .c (.str ret), .own e]) → M e = some (.mrow 35 2 (env.map bC)) → (∀ i o, M i = some o → i ≠ c0 → c0 ∉ o.ids ∧ e ∉ o.ids ∧ O.kill e o = o) →
 Qu Tryz.prog 51 [.ptr c0 0, .c (.sl (l.map dx))] M [e] [c0, e] dJ (upd (upd M c0 none) e none) (EX M (dH p.classes inn ret env l)) := by
 intro n
 induction n using Nat.strongRecOn with
 | ind n ih =>
 intro l hn hK env hcnt M b c0 e hfar hc0 he hno
 have cb : ∀ d, (c0 = b + d) = False := Dp hfar hc0
 have bc : ∀ d, (b + d = c0) = False := Bj hfar hc0
 have eb : ∀ d, (e = b + d) = False := Dp hfar he
 have be : ∀ d, (b + d = e) = False := Bj hfar he
 have ce : (c0 = e) = False := eq_false fun h => by subst h; rw [hc0] at he; cases he
 have ec : (e = c0) = False := eq_false fun h => by subst h; rw [hc0] at he; cases he
 have hll : l.length ≤ 100000000 := by have := wU l; omega
 obtain ⟨r, hr⟩ : ∃ r, EX M (dH p.classes inn ret env l) = r := ⟨_, rfl⟩
 rw [hr]
 refine Lb ah [e] [c0, e] r Tryz.func51 (by kernel_rfl) rfl rfl (by rfl) (by rfl) ?ids ?res ?hsx ?hwx (fun hWF Rr hkeep => ?_)
 case ids => intro a ha j hj; simp at ha; rcases ha with rfl | rfl <;> simp [A.ids] at hj; subst hj; simp [hc0]
 case res =>
  intro x M' hx
  rw [← hr] at hx
  unfold EX at hx
  split at hx
  ·cases hx
   exact ⟨fun i hi => by simp [A.ids] at hi, fun i hi => hi, fun hw => hw⟩
  ·cases hx
 case hsx =>
  intro j hj hd
  simp only [List.mem_cons, List.not_mem_nil, or_false, not_or] at hd
  rw [upd_ne _ _ hd.2, upd_ne _ _ hd.1]; exact hj
 case hwx =>
  intro hw i o ho j hj
  by_cases e1 : i = e
  ·subst e1; rw [upd_same] at ho; cases ho
  rw [upd_ne _ _ e1] at ho
  by_cases e2 : i = c0
  ·subst e2; rw [upd_same] at ho; cases ho
  rw [upd_ne _ _ e2] at ho
  obtain ⟨h1, h2, -⟩ := hno i o ho e2
  rw [upd_ne _ _ (fun h => h2 (by rw [← h]; exact hj)), upd_ne _ _ (fun h => h1 (by rw [← h]; exact hj))]
  exact hw i o ho j hj
 have kept : ∀ i, Rr.keep i → (M i).isSome = true := fun i hi => by rw [hkeep] at hi; exact hi.1
 have nke : ¬ Rr.keep e := by
  rw [hkeep]; intro h
  cases r <;> exact h.2 (by simp [DB])
 have hel : ((env.length : Nat) : Int) ≤ 9223372036854775807 := by omega
 repeat (first | refine W.q ?_ | refine W.region ah b (by decide) (aG (by simp only [exb, simprocAttr, hc0, he, List.length_map]; rfl)) ?_)
 refine W.loop (ι := Nat) (fun k => ⟨upd (upd (upd (upd (upd (fun _ => .top) 0 (.ptr c0 0)) 4 (.c (.int .i64 env.length))) 15 (.c (.sl (l.map dx)))) 16 (.c (.int .i64 l.length))) 17 (.c (.int .i64 k)), upd M e (some (.mrow 35 2 ((o9 env (l.take k)).map bC)))⟩) (fun k => k ≤ l.length ∧ dH p.classes inn ret env (l.take k) = true) (fun k => l.length - k) 0 ?start ⟨Nat.zero_le _, by simp [dH]⟩ ?round
 case start =>
  refine dh ?sle ?mle ?swf ?mwf (fun i hi => bV i (kept i hi)) (by rfl)
  case swf => repeat (first | exact aT _ | refine aU ?_ (by simp [A.ids, av, hc0, ce, ec]))
  case mwf => exact dA hWF (fun i hi => by simp [O.ids] at hi)
  case mle => exact mD (wX M (by rw [he]; simp [o9])).symm
  case sle => repeat (first | exact aQ _ | exact aK _ | refine aP ?_ Px)
 case round =>
  rintro k ⟨hkl, hyes⟩
  repeat (first | refine W.q ?_ | refine W.region ah b (by decide) xr0 ?_)
  refine W.cond rfl ?_ ?_
  ·intro hlt
   replace hlt := dtl hlt
   obtain ⟨x, hx⟩ : ∃ x, l[k]? = some x := ⟨_, List.getElem?_eq_getElem hlt⟩
   have hxm := List.mem_of_getElem? hx
   have hxs := List.sizeOf_lt_of_mem hxm
   have hKx := hK.mem hxm
   have hat := cZ (f := dx) hx
   have htk : l.take (k + 1) = l.take k ++ [x] := by rw [List.take_add_one, hx]; rfl
   have hsp : l = l.take k ++ (x :: l.drop (k + 1)) := by have h1 := List.take_append_drop (k + 1) l; rw [htk, List.append_assoc] at h1; exact h1.symm
   have hcx := vS (l.take k) (x :: l.drop (k + 1))
   rw [← hsp] at hcx
   have hkc := wU (l.take k)
   have hEl := Mr env (l.take k)
   obtain ⟨sk, sn, ty, nm, es, th, el⟩ := x
   simp only [ED] at hKx
   obtain ⟨s2, s3, s4, s5, s6, s7⟩ := hKx
   have hspec := Stmt.mk.sizeOf_spec sk sn ty nm es th el
   simp only [dx, dO, eZ] at hat
   rw [jN, y8] at hcx
   have hno2 : lM p.classes inn ret (o9 env (l.take k)) ⟨sk, sn, ty, nm, es, th, el⟩ = false → dH p.classes inn ret env l = false := fun h => by
    rw [hsp, vC, hyes, Bool.true_and, dH, h, Bool.false_and]
   generalize hE : o9 env (l.take k) = E at *
   have hf6 : M (b + 6) = none := hfar 6
   have hf24 : M (b + 24) = none := hfar 24
   have hkl1 : (es.length : Int) ≤ 9223372036854775807 := by omega
   have hkb : es.length * 16 ≤ 140737488355328 := by omega
   refine W.bl ?_
   refine W.ak ah b (by decide) ?_
   refine aA (by simp only [exb, simprocAttr, hat, hf6, hc0, he, cb, bc, eb, be, ce, ec, Nat.add_left_cancel_iff, Nat.add_eq_left, Nat.left_eq_add, upd_same]; rfl) ?_
   simp only [iO]
   refine W.bl ?_
   refine W.ak ah b (by decide) ?_
   refine aA (by simp only [exb, simprocAttr, upd_same, hf24, hc0, he, cb, bc, eb, be, ce, ec, Nat.add_left_cancel_iff, Nat.add_eq_left, Nat.left_eq_add, List.length_map, hkl1, hkb, Int.toNat_natCast, Int.natCast_nonneg, and_self, Bool.false_eq_true]; rfl) ?_
   refine W.bl ?_
   refine W.ak ah b (by decide) ?_
   refine aA (by simp only [exb, simprocAttr, upd_same, hc0, he, cb, bc, eb, be, ce, ec, Nat.add_left_cancel_iff, Nat.add_eq_left, Nat.left_eq_add, List.length_map]; rfl) ?_
   refine W.bl ?_
   have htyp := EH p inn ret E hS hB hlen (by omega) hchk
   have hls : wT (upd (upd (upd M e (some (.mrow 35 2 (E.map bC)))) (b + 6) none) (b + 24) none) [.c (.sl (p.classes.map ay)), .c (.sl (bJ p.main)), .c (.str inn), .c (.str ret), .own e] = some (ckC p.classes p.main inn ret E) := by
    simp only [wT, asL, asC, av, eb, if_false, if_true, eq_self, ckC]
   refine W.loop (ι := List ByteArray) (fun ts => ⟨upd (upd (upd (upd (upd (upd (upd (upd (upd (upd (fun _ => .top) 0 (.ptr c0 0)) 4 (.c (.int .i64 env.length))) 6 (.ptr (b + 6) 0)) 7 (.own (b + 24))) 15 (.c (.sl (l.map dx)))) 16 (.c (.int .i64 l.length))) 17 (.c (.int .i64 k))) 26 (.c (.sl (es.map cExpr)))) 27 (.c (.int .i64 es.length))) 28 (.c (.int .i64 ts.length)),
    upd (upd (upd M e (some (.mrow 35 2 (E.map bC)))) (b + 6) (some (.box 118 [.c (.int .i64 sk), .c (.int .i64 sn), .c (.str ty), .c (.str nm), .c (.sl (es.map cExpr)), .c (.sl (th.map dx)), .c (.sl (el.map dx))]))) (b + 24) (some (.mrow 9 1 (tC ts es.length)))⟩)
    (fun ts => ts.length ≤ es.length ∧ eP p.classes inn E (es.take ts.length) = some ts) (fun ts => es.length - ts.length) [] ?start2 ⟨Nat.zero_le _, by simp [eP]⟩ ?round2
   case start2 =>
    rw [Bd]
    refine dh ?sle ?mle ?swf ?mwf (fun i hi => by repeat (first | exact kept i hi | refine bV i ?_)) (by rfl)
    case swf => repeat (first | exact aT _ | refine aU ?_ yI)
    case mwf => repeat (first | exact hWF | refine dA ?_ (fun i hi => by simp [O.ids, A.ids] at hi))
    case mle => first | exact aC _ | exact fT (aC _) zW
    case sle => repeat (first | exact aQ _ | exact aK _ | refine aP ?_ zT)
   case round2 =>
    rintro ts ⟨hk, hall⟩
    repeat (first | refine W.q ?_ | refine W.region ah b (by decide) xr0 ?_)
    refine W.cond rfl ?_ ?_
    ·intro hlt2
     replace hlt2 := dtl hlt2
     obtain ⟨y, hy⟩ : ∃ y, es[ts.length]? = some y := ⟨_, List.getElem?_eq_getElem hlt2⟩
     have hym := List.mem_of_getElem? hy
     have hT := htyp (SizeOf.sizeOf y) y (Nat.le_refl _) (s5.mem hym)
     have htk2 : es.take (ts.length + 1) = es.take ts.length ++ [y] := by rw [List.take_add_one, hy]; rfl
     have happ := o8 p.classes inn E (es.take ts.length) y hall
     rw [← htk2] at happ
     have hrl := Fh (ts := ts) (n := es.length) (by omega)
     have hlt' : ts.length < (tC ts es.length).length := by omega
     have hat2 := cZ (f := cExpr) hy
     obtain ⟨yk, yn, ym, ys⟩ := y
     simp only [cExpr, eZ] at hT hat2
     have hf9 : M (b + 9) = none := hfar 9
     refine W.bl ?_
     refine W.ak ah b (by decide) ?_
     refine aA (by simp only [exb, simprocAttr, hat2, hf9, hc0, he, cb, bc, eb, be, ce, ec, Nat.add_left_cancel_iff, Nat.add_eq_left, Nat.left_eq_add, upd_same]; rfl) ?_
     simp only [iO]
     refine W.bl ?_
     cases ht : jP p.classes inn E ⟨yk, yn, ym, ys⟩ with
     | some t =>
       rw [ht] at happ
       have hT1 : ∀ m, COk Tryz.prog 16 [.rptr (ckC p.classes p.main inn ret E), .agg [.int .i64 yk, .int .i64 yn, .str ym, .sl (ys.map cExpr)]] m (.c (.str t)) := fun m => by have := hT m; rw [ht] at this; exact this
       refine W.ak ah b (by decide) ?_
       refine aj 4 sP ?_
       refine bg rfl rfl rfl rfl rfl (by simp) (aB (bX yJ yH) (aB aV bf)) (by rfl) (by rfl) hT1 ?_
       refine aA (by simp only [exb, simprocAttr, hlt', Io hlt2, vT hlt2, hc0, he, cb, bc, eb, be, ce, ec, Nat.add_left_cancel_iff, Nat.add_eq_left, Nat.left_eq_add, upd_same]; rfl) ?_
       repeat (first | refine W.q ?_ | refine W.region ah b (by decide) xr0 ?_)
       refine ⟨ts ++ [t], ⟨by simp only [List.length_append, List.length_singleton]; omega, by rw [List.length_append, List.length_singleton, happ]; rfl⟩, by simp only [List.length_append, List.length_singleton]; omega, ?_⟩
       refine dh ?sle ?mle ?swf ?mwf (fun i hi => by repeat (first | exact kept i hi | refine bV i ?_)) (by rfl)
       case swf => repeat (first | exact aT _ | refine aU ?_ yI)
       case mwf => repeat (first | exact hWF | refine dA ?_ (fun i hi => by simp [O.ids, A.ids] at hi))
       case mle => exact P5 (by simp) (by simp) (fun h => cast (be 9) h) (fun h => cast (be 6) h) hf9
       case sle => repeat (first | exact aQ _ | exact aK _ | refine aP ?_ (by first | rfl | (simp only [av, aM, A.kill, aN, aO, Nat.reduceEqDiff, reduceIte, List.length_append, List.length_singleton, aR (show ts.length + 1 < 9223372036854775808 by omega)]; done)))
     | none =>
       rw [ht] at happ
       have htn : eP p.classes inn E es = none := by
        have := uh p.classes inn E (es.take (ts.length + 1)) (es.drop (ts.length + 1)) happ
        rwa [List.take_append_drop] at this
       have hbf := hno2 (by simp only [lM, htn, Bool.false_and])
       obtain rfl : r = none := hr.symm.trans Ji
       have hTx : ∀ m, XOk Tryz.prog 16 [.rptr (ckC p.classes p.main inn ret E), .agg [.int .i64 yk, .int .i64 yn, .str ym, .sl (ys.map cExpr)]] m dJ := fun m => by have := hT m; rw [ht] at this; exact this
       refine W.iZ (base := b) (ch := dJ) ah 4 (by decide) rfl ?_
       refine aA sP ?_
       exact ⟨_, iY rfl rfl rfl rfl qh (aB (bX yJ yH) (aB aV bf)) hTx, rfl, by rfl, (Db zV)⟩
    ·intro hge2
     replace hge2 := dnl hge2
     have htl : ts.length = es.length := by omega
     rw [htl, List.take_length] at hall
     rw [Ct htl]
     have hst0 : jm p.classes inn ret E sk ty ts = false → r = none := fun h => by
      have hbf := hno2 (by simp only [lM, hall, h, Bool.false_and])
      exact hr.symm.trans Ji
     have hlen9 : p.classes.length ≤ 1000000000 := by omega
     have hkn : ∀ t m, COk Tryz.prog 24 [.rptr (ckC p.classes p.main inn ret E), .c (.str t)] m (.c (.bool (dK p.classes t))) := fun t m => qN p.classes [.sl (bJ p.main), .str inn, .str ret, .sl (E.map bC)] t hlen9 m
     have hfi : ∀ t u m, COk Tryz.prog 41 [.rptr (ckC p.classes p.main inn ret E), .c (.str t), .c (.str u)] m (.c (.bool (kr 0 p.classes t u))) := fun t u m => y7 p 0 [.str inn, .str ret, .sl (E.map bC)] t u hlen9 hchk m
     refine W.exit ?_
     refine W.bl ?_
     refine W.ak ah b (by decide) ?_
     refine aA sP ?_
     refine W.join (X := ⟨upd (upd (upd (upd (upd (upd (upd (fun _ => .top) 0 (.ptr c0 0)) 4 (.c (.int .i64 env.length))) 6 (.ptr (b + 6) 0)) 7 (.own (b + 24))) 15 (.c (.sl (l.map dx)))) 16 (.c (.int .i64 l.length))) 17 (.c (.int .i64 k)), upd (upd (upd M e (some (.mrow 35 2 (E.map bC)))) (b + 6) (some (.box 118 [.c (.int .i64 sk), .c (.int .i64 sn), .c (.str ty), .c (.str nm), .c (.sl (es.map cExpr)), .c (.sl (th.map dx)), .c (.sl (el.map dx))]))) (b + 24) (some (.mrow 9 1 (ts.map cStr)))⟩) (Y := jm p.classes inn ret E sk ty ts = true) ?sw ?rest
     case sw =>
      refine W.bl ?_
      refine W.ak ah b (by decide) ?_
      refine xe0 ?_
      refine W.cond rfl ?_ ?_
      ·intro h
       simp only [decide_eq_true_eq] at h
       subst h
       cases hk1 : dK p.classes ty with
       | false =>
         obtain rfl : r = none := hst0 (by simp [jm, hk1])
         have hkn1 := hkn ty
         rw [hk1] at hkn1
         refine W.bl ?_
         refine W.sj (base := b) (ch := dJ) ah 18 [61, 1000000] aF (by kernel_rfl) (by decide) rfl ?_
         refine aj 3 sP ?_
         refine bg rfl rfl rfl rfl rfl (by simp) (aB (bX yJ yH) (aB aV bf)) (by rfl) (by rfl) hkn1 ?_
         refine aA sP ?_
         intro st' hs hm
         refine ⟨_, dS rfl rfl rfl rfl qh (bZ (.inl (hs 61 (by decide)).symm) iR) (eG _), rfl, ?_, ?_⟩
         ·show dfs (st'.s 1000000) = []
          rw [hs 1000000 (by decide)]; rfl
         ·rw [hm]; exact (Db zV)
       | true =>
         have hkn1 := hkn ty
         rw [hk1] at hkn1
         refine W.bl ?_
         cases ts with
         | nil =>
           refine W.bM ah b aF (by kernel_rfl) (by decide) ?_
           refine aj 3 sP ?_
           refine bg rfl rfl rfl rfl rfl (by simp) (aB (bX yJ yH) (aB aV bf)) (by rfl) (by rfl) hkn1 ?_
           refine aj 14 (by simp only [exb, simprocAttr, hc0, he, cb, bc, eb, be, ce, ec, Nat.add_left_cancel_iff, Nat.add_eq_left, Nat.left_eq_add, upd_same, List.map_nil, List.length_nil]; rfl) ?_
           refine au rfl rfl rfl rfl rfl (by simp) cw1 (dI _) ?_
           refine xe0 ?_
           refine ⟨by simp [jm, hk1], ?_⟩
           refine dh ?sle ?mle ?swf ?mwf (fun i hi => by repeat (first | exact kept i hi | refine bV i ?_)) (by rfl)
           case swf => repeat (first | exact aT _ | refine aU ?_ yI)
           case mwf => repeat (first | exact hWF | refine dA ?_ (fun i hi => by simp [O.ids, A.ids] at hi))
           case mle => first | exact aC _ | exact fT (aC _) zW
           case sle => repeat (first | exact aQ _ | exact aK _ | refine aP ?_ zT)
         | cons t0 tr =>
           have hz2 : (0 < tr.length + 1) = True := eq_true (Nat.succ_pos _)
           have hz : (((tr.length + 1 : Nat) : Int) = 0) = False := eq_false (by omega)
           have hfi1 := hfi t0 ty
           cases hf : kr 0 p.classes t0 ty with
           | true =>
             rw [hf] at hfi1
             refine W.bM ah b aF (by kernel_rfl) (by decide) ?_
             refine aj 3 sP ?_
             refine bg rfl rfl rfl rfl rfl (by simp) (aB (bX yJ yH) (aB aV bf)) (by rfl) (by rfl) hkn1 ?_
             refine aj 11 zq7 ?_
             refine bg rfl rfl rfl rfl rfl (by simp) (aB (bX yJ yH) (aB aV (aB aV bf))) (by rfl) (by rfl) hfi1 ?_
             refine aj 2 sP ?_
             refine au rfl rfl rfl rfl rfl (by simp) cw1 (dI _) ?_
             refine xe0 ?_
             refine ⟨by simp [jm, hk1, hdT, hf], ?_⟩
             refine dh ?sle ?mle ?swf ?mwf (fun i hi => by repeat (first | exact kept i hi | refine bV i ?_)) (by rfl)
             case swf => repeat (first | exact aT _ | refine aU ?_ yI)
             case mwf => repeat (first | exact hWF | refine dA ?_ (fun i hi => by simp [O.ids, A.ids] at hi))
             case mle => first | exact aC _ | exact fT (aC _) zW
             case sle => repeat (first | exact aQ _ | exact aK _ | refine aP ?_ zT)
           | false =>
             rw [hf] at hfi1
             obtain rfl : r = none := hst0 (by simp [jm, hk1, hdT, hf])
             refine W.sj (base := b) (ch := dJ) ah 18 [61, 1000000] aF (by kernel_rfl) (by decide) rfl ?_
             refine aj 3 sP ?_
             refine bg rfl rfl rfl rfl rfl (by simp) (aB (bX yJ yH) (aB aV bf)) (by rfl) (by rfl) hkn1 ?_
             refine aj 11 zq7 ?_
             refine bg rfl rfl rfl rfl rfl (by simp) (aB (bX yJ yH) (aB aV (aB aV bf))) (by rfl) (by rfl) hfi1 ?_
             refine aA sP ?_
             intro st' hs hm
             refine ⟨_, dS rfl rfl rfl rfl qh (bZ (.inl (hs 61 (by decide)).symm) iR) (eG _), rfl, ?_, ?_⟩
             ·show dfs (st'.s 1000000) = []
              rw [hs 1000000 (by decide)]; rfl
             ·rw [hm]; exact (Db zV)
      ·intro h1
       simp only [decide_eq_false_iff_not] at h1
       refine W.bl ?_
       refine W.ak ah b (by decide) ?_
       refine xe0 ?_
       refine W.cond rfl ?_ ?_
       ·intro h
        simp only [decide_eq_true_eq] at h
        subst h
        have k2 := s2 rfl
        obtain ⟨ta, tb, rfl⟩ : ∃ a b, ts = [a, b] := by
         have h2 : ts.length = 2 := by omega
         match ts, h2 with
         | [a, b], _ => exact ⟨a, b, rfl⟩
        have hfi1 := hfi tb ta
        have h12 : ((1 : Nat) < 2) = True := eq_true (by decide)
        have h02 : ((0 : Nat) < 2) = True := eq_true (by decide)
        refine W.bl ?_
        cases hf : kr 0 p.classes tb ta with
        | true =>
          rw [hf] at hfi1
          refine W.bM ah b aF (by kernel_rfl) (by decide) ?_
          refine aj 7 SB ?_
          refine bg rfl rfl rfl rfl rfl (by simp) (aB (bX yJ yH) (aB aV (aB aV bf))) (by rfl) (by rfl) hfi1 ?_
          refine aj 0 sP ?_
          refine au rfl rfl rfl rfl rfl (by simp) cw1 (dI _) ?_
          refine xe0 ?_
          refine ⟨by simp [jm, hdT, hf], ?_⟩
          refine dh ?sle ?mle ?swf ?mwf (fun i hi => by repeat (first | exact kept i hi | refine bV i ?_)) (by rfl)
          case swf => repeat (first | exact aT _ | refine aU ?_ yI)
          case mwf => repeat (first | exact hWF | refine dA ?_ (fun i hi => by simp [O.ids, A.ids] at hi))
          case mle => first | exact aC _ | exact fT (aC _) zW
          case sle => repeat (first | exact aQ _ | exact aK _ | refine aP ?_ zT)
        | false =>
          rw [hf] at hfi1
          obtain rfl : r = none := hst0 (by simp [jm, hdT, hf])
          refine W.sj (base := b) (ch := dJ) ah 8 [72, 1000000] aF (by kernel_rfl) (by decide) rfl ?_
          refine aj 7 SB ?_
          refine bg rfl rfl rfl rfl rfl (by simp) (aB (bX yJ yH) (aB aV (aB aV bf))) (by rfl) (by rfl) hfi1 ?_
          refine aA sP ?_
          intro st' hs hm
          refine ⟨_, dS rfl rfl rfl rfl qh (bZ (.inl (hs 72 (by decide)).symm) iR) (eG _), rfl, ?_, ?_⟩
          ·show dfs (st'.s 1000000) = []
           rw [hs 1000000 (by decide)]; rfl
          ·rw [hm]; exact (Db zV)
       ·intro h2
        simp only [decide_eq_false_iff_not] at h2
        refine W.bl ?_
        refine W.ak ah b (by decide) ?_
        refine xe0 ?_
        have three : ∀ h3 : sk = 3 ∨ sk = 4 ∨ sk = 5, True := fun _ => trivial
        refine W.cond rfl ?_ ?_
        ·intro h
         have h3 : sk = 3 ∨ sk = 4 ∨ sk = 5 := .inl (by simpa using h)
         refine W.bl ?_
         refine W.cond rfl (fun _ => ?_) (fun h' => absurd (h.symm.trans h') (by simp))
         have k3 := s3 (by omega)
         obtain ⟨t0, tr, rfl⟩ : ∃ t0 tr, ts = t0 :: tr := by
          have hl1 : 1 ≤ ts.length := by omega
          match ts, hl1 with
          | t0 :: tr, _ => exact ⟨t0, tr, rfl⟩
         have hz2 : (0 < tr.length + 1) = True := eq_true (Nat.succ_pos _)
         have hsT : jm p.classes inn ret E sk ty (t0 :: tr) = isT t0 bD := by rcases h3 with rfl | rfl | rfl <;> simp [jm, hdT]
         refine W.bl ?_
         cases hi : isT t0 bD with
         | true =>
           have hi0 := hi
           unfold isT at hi
           refine W.ak ah b (by decide) ?_
           refine aj 4 zq8 ?_
           refine au rfl rfl rfl rfl rfl (by simp) cw1 (dI _) ?_
           refine xe0 ?_
           refine ⟨by rw [hsT, hi0], ?_⟩
           refine dh ?sle ?mle ?swf ?mwf (fun i hi => by repeat (first | exact kept i hi | refine bV i ?_)) (by rfl)
           case swf => repeat (first | exact aT _ | refine aU ?_ yI)
           case mwf => repeat (first | exact hWF | refine dA ?_ (fun i hi => by simp [O.ids, A.ids] at hi))
           case mle => first | exact aC _ | exact fT (aC _) zW
           case sle => repeat (first | exact aQ _ | exact aK _ | refine aP ?_ zT)
         | false =>
           obtain rfl : r = none := hst0 (by rw [hsT, hi])
           unfold isT at hi
           refine W.iZ (base := b) (ch := dJ) ah 4 (by decide) rfl ?_
           refine aA zq8 ?_
           exact ⟨_, dS rfl rfl rfl rfl (by simp) cw1 (eG _), rfl, by rfl, (Db zV)⟩
        ·intro h
         have n3 : ¬ sk = 3 := by simpa using h
         refine W.bl ?_
         refine W.ak ah b (by decide) ?_
         refine xe0 ?_
         refine W.cond rfl ?_ ?_
         ·intro h
          have h3 : sk = 3 ∨ sk = 4 ∨ sk = 5 := .inr (.inl (by simpa using h))
          refine W.bl ?_
          refine W.cond rfl (fun _ => ?_) (fun h' => absurd (h.symm.trans h') (by simp))
          have k3 := s3 (by omega)
          obtain ⟨t0, tr, rfl⟩ : ∃ t0 tr, ts = t0 :: tr := by
           have hl1 : 1 ≤ ts.length := by omega
           match ts, hl1 with
           | t0 :: tr, _ => exact ⟨t0, tr, rfl⟩
          have hz2 : (0 < tr.length + 1) = True := eq_true (Nat.succ_pos _)
          have hsT : jm p.classes inn ret E sk ty (t0 :: tr) = isT t0 bD := by rcases h3 with rfl | rfl | rfl <;> simp [jm, hdT]
          refine W.bl ?_
          cases hi : isT t0 bD with
          | true =>
            have hi0 := hi
            unfold isT at hi
            refine W.ak ah b (by decide) ?_
            refine aj 4 zq8 ?_
            refine au rfl rfl rfl rfl rfl (by simp) cw1 (dI _) ?_
            refine xe0 ?_
            refine ⟨by rw [hsT, hi0], ?_⟩
            refine dh ?sle ?mle ?swf ?mwf (fun i hi => by repeat (first | exact kept i hi | refine bV i ?_)) (by rfl)
            case swf => repeat (first | exact aT _ | refine aU ?_ yI)
            case mwf => repeat (first | exact hWF | refine dA ?_ (fun i hi => by simp [O.ids, A.ids] at hi))
            case mle => first | exact aC _ | exact fT (aC _) zW
            case sle => repeat (first | exact aQ _ | exact aK _ | refine aP ?_ zT)
          | false =>
            obtain rfl : r = none := hst0 (by rw [hsT, hi])
            unfold isT at hi
            refine W.iZ (base := b) (ch := dJ) ah 4 (by decide) rfl ?_
            refine aA zq8 ?_
            exact ⟨_, dS rfl rfl rfl rfl (by simp) cw1 (eG _), rfl, by rfl, (Db zV)⟩
         ·intro h
          have n4 : ¬ sk = 4 := by simpa using h
          refine W.bl ?_
          refine W.ak ah b (by decide) ?_
          refine xe0 ?_
          refine W.cond rfl ?_ ?_
          ·intro h
           have h3 : sk = 3 ∨ sk = 4 ∨ sk = 5 := .inr (.inr (by simpa using h))
           have k3 := s3 (by omega)
           obtain ⟨t0, tr, rfl⟩ : ∃ t0 tr, ts = t0 :: tr := by
            have hl1 : 1 ≤ ts.length := by omega
            match ts, hl1 with
            | t0 :: tr, _ => exact ⟨t0, tr, rfl⟩
           have hz2 : (0 < tr.length + 1) = True := eq_true (Nat.succ_pos _)
           have hsT : jm p.classes inn ret E sk ty (t0 :: tr) = isT t0 bD := by rcases h3 with rfl | rfl | rfl <;> simp [jm, hdT]
           refine W.bl ?_
           cases hi : isT t0 bD with
           | true =>
             have hi0 := hi
             unfold isT at hi
             refine W.ak ah b (by decide) ?_
             refine aj 4 zq8 ?_
             refine au rfl rfl rfl rfl rfl (by simp) cw1 (dI _) ?_
             refine xe0 ?_
             refine ⟨by rw [hsT, hi0], ?_⟩
             refine dh ?sle ?mle ?swf ?mwf (fun i hi => by repeat (first | exact kept i hi | refine bV i ?_)) (by rfl)
             case swf => repeat (first | exact aT _ | refine aU ?_ yI)
             case mwf => repeat (first | exact hWF | refine dA ?_ (fun i hi => by simp [O.ids, A.ids] at hi))
             case mle => first | exact aC _ | exact fT (aC _) zW
             case sle => repeat (first | exact aQ _ | exact aK _ | refine aP ?_ zT)
           | false =>
             obtain rfl : r = none := hst0 (by rw [hsT, hi])
             unfold isT at hi
             refine W.iZ (base := b) (ch := dJ) ah 4 (by decide) rfl ?_
             refine aA zq8 ?_
             exact ⟨_, dS rfl rfl rfl rfl (by simp) cw1 (eG _), rfl, by rfl, (Db zV)⟩
          ·intro h
           have n5 : ¬ sk = 5 := by simpa using h
           refine W.bl ?_
           refine W.ak ah b (by decide) ?_
           refine xe0 ?_
           refine W.cond rfl ?_ ?_
           ·intro h
            simp only [decide_eq_true_eq] at h
            subst h
            have k3 := s3 (by omega)
            obtain ⟨t0, tr, rfl⟩ : ∃ t0 tr, ts = t0 :: tr := by
             have hl1 : 1 ≤ ts.length := by omega
             match ts, hl1 with
             | t0 :: tr, _ => exact ⟨t0, tr, rfl⟩
            have hz2 : (0 < tr.length + 1) = True := eq_true (Nat.succ_pos _)
            refine W.bl ?_
            cases hi : isT ret tNo with
            | true =>
              obtain rfl : r = none := hst0 (by simp [jm, hi])
              unfold isT at hi
              have hi2 := hi
              rw [iN] at hi2
              refine W.sj (base := b) (ch := dJ) ah 16 [100, 1000000] aF (by kernel_rfl) (by decide) rfl ?_
              refine aA (by simp only [exb, simprocAttr, hc0, he, cb, bc, eb, be, ce, ec, Nat.add_left_cancel_iff, Nat.add_eq_left, Nat.left_eq_add, upd_same, hi, hi2]; rfl) ?_
              intro st' hs hm
              refine ⟨_, dS rfl rfl rfl rfl qh (bZ (.inl (hs 100 (by decide)).symm) iR) (eG _), rfl, ?_, ?_⟩
              ·show dfs (st'.s 1000000) = []
               rw [hs 1000000 (by decide)]; rfl
              ·rw [hm]; exact (Db zV)
            | false =>
              have hi0 := hi
              unfold isT at hi
              have hi2 := hi
              rw [iN] at hi2
              have hfi1 := hfi t0 ret
              cases hf : kr 0 p.classes t0 ret with
              | true =>
                rw [hf] at hfi1
                refine W.bM ah b aF (by kernel_rfl) (by decide) ?_
                refine aj 14 zq5 ?_
                refine bg rfl rfl rfl rfl rfl (by simp) (aB (bX yJ yH) (aB aV (aB aV bf))) (by rfl) (by rfl) hfi1 ?_
                refine aj 1 sP ?_
                refine au rfl rfl rfl rfl rfl (by simp) cw1 (dI _) ?_
                refine xe0 ?_
                refine ⟨by simp [jm, hi0, hdT, hf], ?_⟩
                refine dh ?sle ?mle ?swf ?mwf (fun i hi => by repeat (first | exact kept i hi | refine bV i ?_)) (by rfl)
                case swf => repeat (first | exact aT _ | refine aU ?_ yI)
                case mwf => repeat (first | exact hWF | refine dA ?_ (fun i hi => by simp [O.ids, A.ids] at hi))
                case mle => first | exact aC _ | exact fT (aC _) zW
                case sle => repeat (first | exact aQ _ | exact aK _ | refine aP ?_ zT)
              | false =>
                rw [hf] at hfi1
                obtain rfl : r = none := hst0 (by simp [jm, hdT, hf])
                refine W.sj (base := b) (ch := dJ) ah 16 [100, 1000000] aF (by kernel_rfl) (by decide) rfl ?_
                refine aj 14 zq5 ?_
                refine bg rfl rfl rfl rfl rfl (by simp) (aB (bX yJ yH) (aB aV (aB aV bf))) (by rfl) (by rfl) hfi1 ?_
                refine aA sP ?_
                intro st' hs hm
                refine ⟨_, dS rfl rfl rfl rfl qh (bZ (.inl (hs 100 (by decide)).symm) iR) (eG _), rfl, ?_, ?_⟩
                ·show dfs (st'.s 1000000) = []
                 rw [hs 1000000 (by decide)]; rfl
                ·rw [hm]; exact (Db zV)
           ·intro h
            have n6 : ¬ sk = 6 := by simpa using h
            refine W.bl ?_
            refine ⟨by simp [jm, h1, h2, n3, n4, n5, n6], ?_⟩
            refine dh ?sle ?mle ?swf ?mwf (fun i hi => by repeat (first | exact kept i hi | refine bV i ?_)) (by rfl)
            case swf => repeat (first | exact aT _ | refine aU ?_ yI)
            case mwf => repeat (first | exact hWF | refine dA ?_ (fun i hi => by simp [O.ids, A.ids] at hi))
            case mle => first | exact aC _ | exact fT (aC _) zW
            case sle => repeat (first | exact aQ _ | exact aK _ | refine aP ?_ zT)
     case rest =>
      intro hst
      have hlk : (l.take k).length = k := by rw [List.length_take]; omega
      have far2 : ∀ (x y z : Option O) d, (upd (upd (upd M e x) (b + 6) y) (b + 24) z) (b + 200 + d) = none := fun x y z d => by
       rw [upd_ne _ _ (by omega), upd_ne _ _ (by omega), upd_ne _ _ (fun h => cast (be (200 + d)) (by rw [← Nat.add_assoc]; exact h)), Nat.add_assoc]; exact hfar _
      have atc : ∀ (x y z : Option O), (upd (upd (upd M e x) (b + 6) y) (b + 24) z) c0 = some (.box 53 [.c (.sl (p.classes.map ay)), .c (.sl (bJ p.main)), .c (.str inn), .c (.str ret), .own e]) := fun x y z => by
       rw [upd_ne _ _ (fun h => cast (cb 24) h), upd_ne _ _ (fun h => cast (cb 6) h), upd_ne _ _ (fun h => cast ce h)]; exact hc0
      have ate : ∀ (x y z : Option O), (upd (upd (upd M e x) (b + 6) y) (b + 24) z) e = x := fun x y z => by
       rw [upd_ne _ _ (fun h => cast (eb 24) h), upd_ne _ _ (fun h => cast (eb 6) h), upd_same]
      have hno3 : ∀ (x y z : O), (x.ids = [] ∧ O.kill e x = x) → (y.ids = [] ∧ O.kill e y = y) → (z.ids = [] ∧ O.kill e z = z) → ∀ i o, (upd (upd (upd M e (some x)) (b + 6) (some y)) (b + 24) (some z)) i = some o → i ≠ c0 → c0 ∉ o.ids ∧ e ∉ o.ids ∧ O.kill e o = o := fun x y z hx hy hz i o ho hi => by
       unfold upd at ho
       split at ho
       ·cases ho; exact ⟨by rw [hz.1]; simp, by rw [hz.1]; simp, hz.2⟩
       ·split at ho
        ·cases ho; exact ⟨by rw [hy.1]; simp, by rw [hy.1]; simp, hy.2⟩
        ·split at ho
         ·cases ho; exact ⟨by rw [hx.1]; simp, by rw [hx.1]; simp, hx.2⟩
         ·exact hno i o ho hi
      refine W.bl ?_
      cases hth : dH p.classes inn ret E th with
      | false =>
        have hT := ih (SizeOf.sizeOf th) (by omega) th (Nat.le_refl _) s6 E (by omega) _ (b + 200) c0 e (far2 (some (.mrow 35 2 (E.map bC))) (some (.box 118 [.c (.int .i64 sk), .c (.int .i64 sn), .c (.str ty), .c (.str nm), .c (.sl (es.map cExpr)), .c (.sl (th.map dx)), .c (.sl (el.map dx))])) (some (.mrow 9 1 (ts.map cStr)))) (atc _ _ _) (ate _ _ _) (hno3 _ _ _ ⟨rfl, rfl⟩ ⟨by simp [O.ids, A.ids], rfl⟩ ⟨rfl, rfl⟩)
        rw [hth] at hT
        have hbf := hno2 (by simp only [lM, hall, hst, hth, Bool.true_and, Bool.false_and])
        obtain rfl : r = none := hr.symm.trans Ji
        have nkc : ¬ Rr.keep c0 := by rw [hkeep]; intro h; exact h.2 (by simp [DB])
        refine W.bl ?_
        refine W.iZ (base := b) (ch := dJ) BB.ah 3 (by decide) rfl ?_
        refine aA Pq ?_
        exact ⟨_, oJ (D := [c0, e]) (fun u hu => by simp at hu; rcases hu with rfl | rfl <;> assumption) rfl rfl rfl rfl (by simp) cw2 hT, rfl, by rfl, Qq zV⟩
      | true =>
        have hT := ih (SizeOf.sizeOf th) (by omega) th (Nat.le_refl _) s6 E (by omega) _ (b + 200) c0 e (far2 (some (.mrow 35 2 (E.map bC))) (some (.box 118 [.c (.int .i64 sk), .c (.int .i64 sn), .c (.str ty), .c (.str nm), .c (.sl (es.map cExpr)), .c (.sl (th.map dx)), .c (.sl (el.map dx))])) (some (.mrow 9 1 (ts.map cStr)))) (atc _ _ _) (ate _ _ _) (hno3 _ _ _ ⟨rfl, rfl⟩ ⟨by simp [O.ids, A.ids], rfl⟩ ⟨rfl, rfl⟩)
        rw [hth] at hT
        refine W.bl ?_
        refine W.ak BB.ah b (by decide) ?_
        refine aj 3 Pq ?_
        refine aJ (D := [e]) rfl rfl rfl rfl rfl (fun j hj => by simp at hj; subst hj; exact nke) (by simp) cw2 hT ?_
        simp only [bQ, dw]
        refine xe0 ?_
        refine W.weaken (st' := ⟨upd (upd (upd (upd (upd (upd (upd (fun _ => .top) 0 (.ptr c0 0)) 4 (.c (.int .i64 env.length))) 6 (.ptr (b + 6) 0)) 7 (.own (b + 24))) 15 (.c (.sl (l.map dx)))) 16 (.c (.int .i64 l.length))) 17 (.c (.int .i64 k)), upd (upd (upd M e (some (.mrow 35 2 (E.map bC)))) (b + 6) (some (.box 118 [.c (.int .i64 sk), .c (.int .i64 sn), .c (.str ty), .c (.str nm), .c (.sl (es.map cExpr)), .c (.sl (th.map dx)), .c (.sl (el.map dx))]))) (b + 24) (some (.mrow 9 1 (ts.map cStr)))⟩) ?le ?_
        case le =>
         refine dh ?sle ?mle ?swf ?mwf (fun i hi => by repeat (first | exact kept i hi | refine bV i ?_)) (by rfl)
         case swf => repeat (first | exact aT _ | refine aU ?_ SI)
         case mwf => repeat (first | exact hWF | refine dA ?_ (fun i hi => by simp [O.ids, A.ids] at hi))
         case mle => first | exact aC _ | exact fT (aC _) zW
         case sle => repeat (first | exact aQ _ | exact aK _ | refine aP ?_ SN)
        clear hT
        cases hel2 : dH p.classes inn ret E el with
        | false =>
          have hT := ih (SizeOf.sizeOf el) (by omega) el (Nat.le_refl _) s7 E (by omega) _ (b + 200) c0 e (far2 (some (.mrow 35 2 (E.map bC))) (some (.box 118 [.c (.int .i64 sk), .c (.int .i64 sn), .c (.str ty), .c (.str nm), .c (.sl (es.map cExpr)), .c (.sl (th.map dx)), .c (.sl (el.map dx))])) (some (.mrow 9 1 (ts.map cStr)))) (atc _ _ _) (ate _ _ _) (hno3 _ _ _ ⟨rfl, rfl⟩ ⟨by simp [O.ids, A.ids], rfl⟩ ⟨rfl, rfl⟩)
          rw [hel2] at hT
          have hbf := hno2 (by simp only [lM, hall, hst, hth, hel2, Bool.true_and, Bool.and_false])
          obtain rfl : r = none := hr.symm.trans Ji
          have nkc : ¬ Rr.keep c0 := by rw [hkeep]; intro h; exact h.2 (by simp [DB])
          refine W.bl ?_
          refine W.iZ (base := b) (ch := dJ) BB.ah 3 (by decide) rfl ?_
          refine aA Pq ?_
          exact ⟨_, oJ (D := [c0, e]) (fun u hu => by simp at hu; rcases hu with rfl | rfl <;> assumption) rfl rfl rfl rfl (by simp) cw2 hT, rfl, by rfl, Qq zV⟩
        | true =>
          have hT := ih (SizeOf.sizeOf el) (by omega) el (Nat.le_refl _) s7 E (by omega) _ (b + 200) c0 e (far2 (some (.mrow 35 2 (E.map bC))) (some (.box 118 [.c (.int .i64 sk), .c (.int .i64 sn), .c (.str ty), .c (.str nm), .c (.sl (es.map cExpr)), .c (.sl (th.map dx)), .c (.sl (el.map dx))])) (some (.mrow 9 1 (ts.map cStr)))) (atc _ _ _) (ate _ _ _) (hno3 _ _ _ ⟨rfl, rfl⟩ ⟨by simp [O.ids, A.ids], rfl⟩ ⟨rfl, rfl⟩)
          rw [hel2] at hT
          refine W.bl ?_
          refine W.ak BB.ah b (by decide) ?_
          refine aj 3 Pq ?_
          refine aJ (D := [e]) rfl rfl rfl rfl rfl (fun j hj => by simp at hj; subst hj; exact nke) (by simp) cw2 hT ?_
          simp only [bQ, dw]
          refine xe0 ?_
          refine W.weaken (st' := ⟨upd (upd (upd (upd (upd (upd (upd (fun _ => .top) 0 (.ptr c0 0)) 4 (.c (.int .i64 env.length))) 6 (.ptr (b + 6) 0)) 7 (.own (b + 24))) 15 (.c (.sl (l.map dx)))) 16 (.c (.int .i64 l.length))) 17 (.c (.int .i64 k)), upd (upd (upd M e (some (.mrow 35 2 (E.map bC)))) (b + 6) (some (.box 118 [.c (.int .i64 sk), .c (.int .i64 sn), .c (.str ty), .c (.str nm), .c (.sl (es.map cExpr)), .c (.sl (th.map dx)), .c (.sl (el.map dx))]))) (b + 24) (some (.mrow 9 1 (ts.map cStr)))⟩) ?le ?_
          case le =>
           refine dh ?sle ?mle ?swf ?mwf (fun i hi => by repeat (first | exact kept i hi | refine bV i ?_)) (by rfl)
           case swf => repeat (first | exact aT _ | refine aU ?_ SI)
           case mwf => repeat (first | exact hWF | refine dA ?_ (fun i hi => by simp [O.ids, A.ids] at hi))
           case mle => first | exact aC _ | exact fT (aC _) zW
           case sle => repeat (first | exact aQ _ | exact aK _ | refine aP ?_ SN)
          clear hT
          refine W.bl ?_
          refine W.ak ah b (by decide) ?_
          refine aA sP ?_
          have hyes2 : dH p.classes inn ret env (l.take (k + 1)) = true := by
           rw [htk, vC, hyes, hE, Bool.true_and]
           simp only [dH, lM, hall, hst, hth, hel2, Bool.and_true]
          refine W.cond rfl ?_ ?_
          ·intro h
           simp only [decide_eq_true_eq] at h
           subst h
           have hE2 : o9 env (l.take (k + 1)) = E ++ [⟨ty, nm⟩] := by rw [htk, CV, hE]; rfl
           refine W.bl ?_
           refine W.Jl ah aF ⟨upd (upd (upd (upd (upd (fun _ => .top) 0 (.ptr c0 0)) 4 (.c (.int .i64 env.length))) 15 (.c (.sl (l.map dx)))) 16 (.c (.int .i64 l.length))) 17 (.c (.int .i64 k)), upd M e (some (.mrow 35 2 ((E ++ ([⟨ty, nm⟩] : List Slot)).map bC)))⟩ ?_ ?_
           refine yN (base := b) ah (by decide) dL 0 rfl rfl rfl dL dL ⟨_, zU, ?_⟩
           refine IZ (base := b) ah (by decide) ?_
           refine dD 1 dL ⟨_, zU, ?_⟩
           refine dD 2 dL ⟨_, zU, ?_⟩
           refine dD 3 dL ⟨_, zU, ?_⟩
           refine dD 4 dL ⟨_, zU, ?_⟩
           refine dD 5 dL ⟨_, zU, ?_⟩
           refine dD 6 dL ⟨_, zU, ?_⟩
           refine dD 7 dL ⟨_, zU, ?_⟩
           refine dD 8 dL ⟨_, zU, ?_⟩
           refine dD 9 dL ⟨_, zU, ?_⟩
           refine dD 10 dL ⟨_, zU, ?_⟩
           refine wH [11] dL (by decide) ?_
           refine step_append ah rfl e false rfl rfl rfl rfl rfl rfl (by simp only [exb, simprocAttr, hc0, he, cb, bc, eb, be, ce, ec, Nat.add_left_cancel_iff, Nat.add_eq_left, Nat.left_eq_add, upd_same, jd]; done) SF SF rfl rfl rfl rfl nke (fun z hz => by simp at hz; subst hz; rfl) OQ (by decide) ?_ ?_
           ·skip
            refine dD 12 dL ⟨_, zq3, ?_⟩
            refine dD 13 dL ⟨_, zq3, ?_⟩
            refine dD 14 dL ⟨_, zq3, ?_⟩
            refine wz dL ?_
            refine dh ?sle ?mle ?swf ?mwf (fun i hi => by repeat (first | exact kept i hi | refine bV i ?_)) (by rfl)
            case swf => repeat (first | exact aT _ | refine aU ?_ (by simp [A.ids, av, aL, hc0, he, cb, bc, eb, be, ce, ec, Nat.add_left_cancel_iff]))
            case mwf => exact dA hWF (fun i hi => by simp [O.ids, A.ids] at hi)
            case mle =>
             intro u
             by_cases h1 : u = e
             ·subst h1; right; simp [av, aL, ec, jd, List.map_append, bC]
             by_cases h2 : u = c0
             ·subst h2; right; simp [av, aL, ce, hc0, ckC]
             cases ho : M u with
             | none => left; simp [av, h1, ho]
             | some o =>
               have h3 : ¬ u = b + 6 := fun h => by subst h; rw [hf6] at ho; cases ho
               have h4 : ¬ u = b + 24 := fun h => by subst h; rw [hf24] at ho; cases ho
               right; simp [av, h1, h2, h3, h4, aL, ho, (hno u o ho h2).2.2]
            case sle => repeat (first | exact aQ _ | exact aK _ | refine aP ?_ (by first | rfl | (simp only [av, aM, A.kill, aN, aO, Nat.reduceEqDiff, reduceIte, ce]; done)))
           ·trivial
           ·intro st' hle
            refine W.weaken hle ?_
            clear hle st'
            repeat (first | refine W.q ?_ | refine W.region ah b (by decide) xr0 ?_)
            refine ⟨k + 1, ⟨hlt, hyes2⟩, by omega, ?_⟩
            rw [hE2]
            refine dh ?sle ?mle ?swf ?mwf (fun i hi => by repeat (first | exact kept i hi | refine bV i ?_)) (by rfl)
            case swf => repeat (first | exact aT _ | refine aU ?_ yI)
            case mwf => exact dA hWF (fun i hi => by simp [O.ids, A.ids] at hi)
            case mle => exact aC _
            case sle => repeat (first | exact aQ _ | exact aK _ | refine aP ?_ Ol)
          ·intro h
           simp only [decide_eq_false_iff_not] at h
           have hE2 : o9 env (l.take (k + 1)) = E := by rw [htk, CV, hE]; simp [h]
           repeat (first | refine W.q ?_ | refine W.region ah b (by decide) xr0 ?_)
           refine ⟨k + 1, ⟨hlt, hyes2⟩, by omega, ?_⟩
           rw [hE2]
           refine dh ?sle ?mle ?swf ?mwf (fun i hi => by repeat (first | exact kept i hi | refine bV i ?_)) (by rfl)
           case swf => repeat (first | exact aT _ | refine aU ?_ yI)
           case mwf => repeat (first | exact hWF | refine dA ?_ (fun i hi => by simp [O.ids, A.ids] at hi))
           case mle => exact fT (fT (aC _) ((upd_ne (f := M) (t := e) (u := b + 6) _ (fun h => cast (be 6) h)).trans hf6)) ((upd_ne (f := M) (t := e) (u := b + 24) _ (fun h => cast (be 24) h)).trans hf24)
           case sle => repeat (first | exact aQ _ | exact aK _ | refine aP ?_ Ol)
  ·intro hge
   replace hge := dnl hge
   obtain rfl : k = l.length := by omega
   rw [List.take_length] at hyes ⊢
   obtain ⟨tE, htE⟩ := M6 env l
   have hr0 : EX M (dH p.classes inn ret env l) = some (.tup [], M) := by unfold EX; rw [hyes]; rfl
   obtain rfl : r = _ := hr.symm.trans hr0
   have hle2 : env.length ≤ env.length + tE.length := Nat.le_add_right _ _
   have hle3 : (0 ≤ env.length ∧ env.length ≤ env.length + tE.length) = True := eq_true ⟨Nat.zero_le _, hle2⟩
   have hle4 : (0 ≤ env.length) = True := eq_true (Nat.zero_le _)
   rw [htE]
   refine W.exit ?_
   refine W.bl ?_
   refine W.Dr c0 4 e (fun h => cast ce h) nke ?_
   refine W.ak ah b (by decide) ?_
   refine aA (by simp only [exb, simprocAttr, hc0, he, cb, bc, eb, be, ce, ec, Nat.add_left_cancel_iff, Nat.add_eq_left, Nat.left_eq_add, upd_same, List.length_map, List.length_append, Int.toNat_natCast, Int.natCast_nonneg, hle2, hle3, hle4]; rfl) ?_
   refine ⟨_, _, _, _, _, _, _, upd_same .., rfl, (upd_ne _ _ (fun h => cast ec h)).trans (upd_same ..), by simp, .inl rfl, by rfl, by rfl, ?_⟩
   intro u
   by_cases h1 : u = c0
   ·subst h1; right; simp [av, hc0, A.kill]
   by_cases h2 : u = e
   ·subst h2; right; simp [av, ec, he]
   cases ho : M u with
   | none => left; rfl
   | some o => right; simp [av, h1, h2, aL, ho, (hno u o ho h1).2.2]
end
def nU : Tab := { tab with eff := fun f => f == 49 }
theorem C7.ah : nU.Ok Tryz.prog := ⟨V.ah.ty, V.ah.zero, V.ah.elem, V.ah.off, V.ah.bool, V.ah.fields, V.ah.bytes, V.ah.nilk, V.ah.int, V.ah.map, V.ah.str, V.ah.one, V.ah.seq⟩
theorem C7.tabs : nU.ty = tab.ty ∧ nU.zero = tab.zero ∧ nU.elem = tab.elem ∧ nU.off = tab.off ∧ nU.bool = tab.bool ∧ nU.fields = tab.fields ∧ nU.bytes = tab.bytes ∧ nU.nilk = tab.nilk ∧ nU.int = tab.int ∧ nU.map = tab.map ∧ nU.str = tab.str ∧ nU.one = tab.one ∧ nU.seq = tab.seq := ⟨rfl, rfl, rfl, rfl, rfl, rfl, rfl, rfl, rfl, rfl, rfl, rfl, rfl⟩
theorem Ah {P : Go.Program} {T : Tab} {kp : Nat → Prop} {base : Nat} {ops : Array Oper} {K : St → Prop} {f i : Nat} {listed : Array Bool} {st : St} {rl : List Nat} {o : Oper} {r : A} {c : Call} {x : Operand} {g : FuncId} {ids : List Nat} {args : List A} {D : List Nat} {M' : Mem} {d : Nat} (ho : ops[i]? = some o) (hd : o.dst = some d) (h : fE ops o st.s = some true) (hop : o.op = .call c) (hc : c.callee = .value x) (hbar : kind T o.op = .barrier) (hx : ev st.s x = .fn g ids) (hkp : ∀ j ∈ D, ¬ kp j) (hb : ∀ j ∈ ids, ∃ ty cells, st.m j = some (.box ty cells))
 (ha : Cvs st.m (c.args.toList.map (ev st.s) ++ ids.map (A.ptr · 0)) args) (hk : gU P g args st.m D r M') (hr : mU P T kp base ops K f (listed.setIfInBounds i true) ⟨upd (bQ D st.s) d r, M'⟩) (tl : Steps P T kp base ops K f listed st rl) : Steps P T kp base ops K f listed st (i :: rl) :=
 ⟨⟨o, _, ho, .eff (FP hkp hbar h hop hc hx hb ha hk), by rw [hd]; exact hr⟩, tl⟩
def MC (ok : Bool) : Option A := if ok = true then some (.tup []) else none
theorem Mt {l : List ByteArray} {k : Nat} {n : ByteArray} (hn : l.Nodup) (hk : l[k]? = some n) : lK (l.take k) n = false := by
 unfold lK
 rw [List.any_eq_false]
 intro y hy he
 obtain rfl := gW.1 he
 obtain ⟨i, hi, h2⟩ := List.mem_take_iff_getElem.1 hy
 have hlt := (List.getElem?_eq_some_iff.1 hk).1
 have h3 := (List.getElem?_eq_some_iff.1 hk).2
 have := List.pairwise_iff_getElem.1 hn i k (by omega) hlt (by omega)
 exact this (h2.trans h3.symm)
section
variable (p : Program) (inn ret : ByteArray) (hS : gN p.classes) (hB : mZ p.classes) (hlen : p.classes.length ≤ 16) (hchk : ∀ m, COk Tryz.prog 12 [.agg (dz p)] m (.c (.int .i64 0)))
include hS hB hlen hchk
set_option maxHeartbeats 4000000 in
theorem xK (params : List Slot) (body : List Stmt) (hnd : (params.map (·.name)).Nodup) (hbl : body.length ≤ 1048576) (hbs : gK 1048576 body) (hK : kH body) (hcnt : params.length + jN body ≤ 100000000) (m : Mem) :
 TOk Tryz.prog 23 [.agg (dz p), .c (.str inn), .c (.str ret), .c (.sl (params.map bC)), .c (.sl (body.map dx))] m dJ (MC (eF p.classes inn ret params body)) := by
 have hcp : dz p = [.sl (p.classes.map ay), .sl (bJ p.main)] := rfl
 have hw01 : IntKind.i64.wrap (0 + 1) = 1 := rfl
 obtain ⟨r, hr⟩ : ∃ r, MC (eF p.classes inn ret params body) = r := ⟨_, rfl⟩
 rw [hr]
 refine (vK ah (ch := dJ) r Tryz.func23 (by kernel_rfl) rfl rfl (by rfl) ?rid (by rfl) (fun R hkeep => ?_) m)
 case rid => intro x hx; rw [← hr] at hx; unfold MC at hx; split at hx <;> cases hx; rfl
 repeat (first | refine W.q ?_ | refine W.g ?_ Iy)
 (repeat (first | refine W.seq ?_ | refine W.block ?_))
 refine W.Jl C7.ah aF ⟨upd (upd (upd (fun _ => .top) 3 (.c (.sl (params.map bC)))) 4 (.c (.sl (body.map dx)))) 10 (.ptr 20 0), upd (upd Mem.nil 20 (some (.box 53 [.c (.sl (p.classes.map ay)), .c (.sl (bJ p.main)), .c (.str inn), .c (.str ret), .own 18]))) 18 (some (.mrow 35 2 (params.map bC)))⟩ ?_ ?_
 ·skip
  refine yN (base := 0) C7.ah (by decide) dL 1 rfl rfl rfl dL dL ⟨_, ze, ?_⟩
  refine yN (base := 0) C7.ah (by decide) dL 2 rfl rfl rfl dL dL ⟨_, ze, ?_⟩
  refine yN (base := 0) C7.ah (by decide) dL 3 rfl rfl rfl dL dL ⟨_, ze, ?_⟩
  refine IZ (base := 0) C7.ah (by decide) ?_
  refine wH [0, 4] dL (by decide) ?_
  refine Km ⟨_, ze, ?_⟩ ?_
  ·skip
   refine wH [4] dL (by decide) ?_
   refine Ah (D := []) rfl rfl rfl rfl rfl rfl rfl (fun u hu => by simp at hu) (by simp) cw1 (zN params (by omega) _ 18 rfl) ?_ ?_
   ·skip
    refine dD 5 dL ⟨_, ze, ?_⟩
    refine dD 6 dL ⟨_, ze, ?_⟩
    refine dD 7 dL ⟨_, ze, ?_⟩
    refine wz dL ?_
    exact nA (aI hkeep)
   ·trivial
  ·skip
   refine Ah (D := []) rfl rfl rfl rfl rfl rfl rfl (fun u hu => by simp at hu) (by simp) cw1 (zN params (by omega) _ 18 rfl) ?_ ?_
   ·skip
    simp only [bQ]
    refine dD 0 dL ⟨_, ze, ?_⟩
    refine dD 5 dL ⟨_, ze, ?_⟩
    refine dD 6 dL ⟨_, ze, ?_⟩
    refine dD 7 dL ⟨_, ze, ?_⟩
    refine wz dL ?_
    exact nA (aI hkeep)
   ·trivial
 intro st' hle
 refine W.weaken hle ?_
 clear hle st'
 refine W.go ?_
 refine W.loop (ι := Nat) (fun k => ⟨upd (upd (upd (upd (upd (upd (fun _ => .top) 4 (.c (.sl (body.map dx)))) 10 (.ptr 20 0)) 11 (.map 21)) 22 (.c (.sl (params.map bC)))) 23 (.c (.int .i64 params.length))) 24 (.c (.int .i64 k)),
  upd (upd (upd Mem.nil 20 (some (.box 53 [.c (.sl (p.classes.map ay)), .c (.sl (bJ p.main)), .c (.str inn), .c (.str ret), .own 18]))) 18 (some (.mrow 35 2 (params.map bC)))) 21 (some (.map (gH ((params.take k).map (·.name)))))⟩)
  (fun k => k ≤ params.length ∧ (params.take k).all (fun s => dK p.classes s.type) = true) (fun k => params.length - k) 0 ?start ⟨Nat.zero_le _, rfl⟩ ?round
 case start =>
  refine dh ?sle ?mle ?swf ?mwf ?kept (by rfl)
  case kept => exact aI hkeep
  case swf => repeat (first | exact aT _ | refine aU ?_ oV)
  case mwf => repeat (first | exact bY _ | refine bU ?_ zq6)
  case mle => repeat (first | exact aZ _ | exact aC _ | refine aY ?_ Qg)
  case sle => repeat (first | exact aQ _ | exact aK _ | refine aP ?_ ML)
 case round =>
  rintro k ⟨hk, hall⟩
  refine W.go ?_
  refine W.cond rfl ?_ ?_
  ·intro hlt
   replace hlt := dtl hlt
   obtain ⟨x, hx⟩ : ∃ x, params[k]? = some x := ⟨_, List.getElem?_eq_getElem hlt⟩
   have hat := cZ (f := bC) hx
   have hkn := qN p.classes [.sl (bJ p.main), .str inn, .str ret, .sl (params.map bC)] x.type (by omega)
   have hs : (params.take (k + 1)).all (fun s => dK p.classes s.type) = dK p.classes x.type := by
    rw [List.take_add_one, hx, List.all_append, hall]; simp
   have hnm : (params.take (k + 1)).map (·.name) = (params.take k).map (·.name) ++ [x.name] := by rw [List.take_add_one, hx]; simp
   have hsn : lK ((params.take k).map (·.name)) x.name = false := by
    have := Mt (k := k) (n := x.name) hnd (by rw [List.getElem?_map, hx]; rfl)
    rwa [List.map_take] 
   have hfd := tF hsn
   obtain ⟨sty, snm⟩ := x
   simp only [bC] at hat
   dsimp only at hkn hs hnm hfd
   repeat (first | refine W.q ?_ | refine W.g ?_ IE)
   cases hkx : dK p.classes sty with
   | false =>
     have hno : eF p.classes inn ret params body = false := by
      have : params.all (fun s => dK p.classes s.type) = false := by
       rw [List.all_eq_false]
       exact ⟨⟨sty, snm⟩, List.mem_of_getElem? hx, by simp [hkx]⟩
      unfold eF; rw [this]; rfl
     rw [hkx] at hkn
     obtain rfl : r = none := hr.symm.trans (by rw [hno]; rfl)
     refine W.bl ?_
     refine W.iZ (base := 0) (ch := dJ) ah 4 (by decide) rfl ?_
     refine xs0 3 ?_
     refine bg rfl rfl rfl rfl rfl (by simp) (aB (bX rfl rfl) (aB aV bf)) (by rfl) (by rfl) hkn ?_
     refine xe0 ?_
     exact ⟨_, dS rfl rfl rfl rfl (by simp) cw1 (eG _), by rfl, rfl⟩
   | true =>
     rw [hkx] at hkn
     refine W.bl ?_
     refine W.ak ah 0 (by decide) ?_
     refine xs0 3 ?_
     refine bg rfl rfl rfl rfl rfl (by simp) (aB (bX rfl rfl) (aB aV bf)) (by rfl) (by rfl) hkn ?_
     refine xs0 0 ?_
     refine au rfl rfl rfl rfl rfl (by simp) cw1 (dI _) ?_
     refine xe0 ?_
     refine W.bl ?_
     refine W.ak ah 0 (by decide) ?_
     refine aj 5 (by simp only [exb, simprocAttr, hfd]; rfl) ?_
     refine zJ ah (ents := gH ((params.take k).map (·.name))) rfl (.inl rfl) rfl rfl (by first | rfl | simp only [exb, simprocAttr]) rfl rfl (by rfl) rfl hfd ?_
     refine xe0 ?_
     refine W.go ?_
     refine ⟨k + 1, ⟨hlt, by rw [hs, hkx]⟩, by omega, ?_⟩
     rw [hnm, kL]
     refine dh ?sle ?mle ?swf ?mwf ?kept (by rfl)
     case kept => exact aI hkeep
     case swf => repeat (first | exact aT _ | refine aU ?_ oV)
     case mwf => repeat (first | exact bY _ | refine bU ?_ zq6)
     case mle => repeat (first | exact aZ _ | exact aC _ | refine aY ?_ (by first | rfl | (simp only [av, aL, Nat.reduceEqDiff, reduceIte, uZ, hw01, aR (show k + 1 < 9223372036854775808 by omega)]; done)))
     case sle => repeat (first | exact aQ _ | exact aK _ | refine aP ?_ (by first | rfl | (simp only [av, aN, aO, Nat.reduceEqDiff, reduceIte, uZ, hw01, aR (show k + 1 < 9223372036854775808 by omega)]; done)))
  ·intro hge
   replace hge := dnl hge
   obtain rfl : k = params.length := by omega
   rw [List.take_length] at hall ⊢
   have hon := KH _ body (Nat.le_refl _) hbl hbs (upd (upd (upd Mem.nil 20 (some (.box 53 [.c (.sl (p.classes.map ay)), .c (.sl (bJ p.main)), .c (.str inn), .c (.str ret), .own 18]))) 18 (some (.mrow 35 2 (params.map bC)))) 21 (some (.map (gH (params.map (·.name)))))) 100 21 (params.map (·.name)) (fun d => by rw [upd_ne _ _ (by omega), upd_ne _ _ (by omega), upd_ne _ _ (by omega)]; rfl) rfl
   have hfr := yh (params.map (·.name)) (bA body)
   unfold lW lu at hon
   refine W.exit ?_
   cases hd : gI (params.map (·.name)) (bA body) with
   | some res =>
     obtain ⟨L', n'⟩ := res
     rw [hd] at hfr hon
     have hno : eF p.classes inn ret params body = false := by
      unfold eF; rw [hfr]; simp
     obtain rfl : r = none := hr.symm.trans (by rw [hno]; rfl)
     refine W.bl ?_
     refine W.iZ (base := 0) (ch := dJ) OO.ah 2 (by decide) rfl ?_
     refine aA Ti ?_
     exact ⟨_, oJ (D := []) (fun u hu => by simp at hu) rfl rfl rfl rfl (by simp) cw2 hon, by rfl, rfl⟩
   | none =>
     rw [hd] at hfr hon
     refine W.bl ?_
     refine W.ak OO.ah 0 (by decide) ?_
     refine aj 2 Ti ?_
     refine aJ (D := []) rfl rfl rfl rfl rfl (fun j hj => by simp at hj) (by simp) cw2 hon ?_
     simp only [bQ, dw, iO]
     refine xe0 ?_
     have hbk := F8 p inn ret hS hB hlen hchk _ body (Nat.le_refl _) hK params hcnt (upd (upd (upd Mem.nil 20 (some (.box 53 [.c (.sl (p.classes.map ay)), .c (.sl (bJ p.main)), .c (.str inn), .c (.str ret), .own 18]))) 18 (some (.mrow 35 2 (params.map bC)))) 21 (some (.map (gH (params.map (·.name) ++ bA body))))) 200 20 18 (fun d => by rw [upd_ne _ _ (by omega), upd_ne _ _ (by omega), upd_ne _ _ (by omega)]; rfl) rfl rfl ?hno
     case hno =>
      intro i o ho hi
      by_cases e1 : i = 21
      ·subst e1
       rw [upd_same] at ho
       cases ho
       refine ⟨?_, ?_, ?_⟩
       ·simp only [O.ids]; rw [fF]; simp
       ·simp only [O.ids]; rw [fF]; simp
       ·show O.map _ = _
        congr 1
        unfold gH
        rw [List.map_map]; rfl
      rw [upd_ne _ _ e1] at ho
      by_cases e2 : i = 18
      ·subst e2
       rw [upd_same] at ho
       cases ho
       exact ⟨by simp [O.ids], by simp [O.ids], rfl⟩
      rw [upd_ne _ _ e2, upd_ne _ _ hi] at ho
      cases ho
     cases hb : dH p.classes inn ret params body with
     | true =>
       have hyes : eF p.classes inn ret params body = true := by
        unfold eF; rw [hall, hfr, hb]; rfl
       obtain rfl : r = some (.tup []) := hr.symm.trans (by rw [hyes]; rfl)
       rw [hb] at hbk
       unfold EX at hbk
       rw [if_pos rfl] at hbk
       refine W.bl ?_
       refine W.ak BB.ah 0 (by decide) ?_
       refine aj 2 R7 ?_
       refine aJ (D := [18]) rfl rfl rfl rfl rfl (fun j hj => ku hkeep) (by simp) cw2 hbk ?_
       simp only [bQ, dw]
       refine xe0 ?_
       refine ⟨by rfl, by simp, ?_⟩
       simp only [Tryz.f23, bE, aD, toT, fin, exb, simprocAttr]
     | false =>
       have hno : eF p.classes inn ret params body = false := by
        unfold eF; rw [hb]; simp
       obtain rfl : r = none := hr.symm.trans (by rw [hno]; rfl)
       rw [hb] at hbk
       unfold EX at hbk
       rw [if_neg (by decide)] at hbk
       refine W.bl ?_
       refine W.iZ (base := 0) (ch := dJ) BB.ah 2 (by decide) rfl ?_
       refine aA R7 ?_
       exact ⟨_, oJ (D := [20, 18]) (fun u hu => ku hkeep) rfl rfl rfl rfl (by simp) cw2 hbk, by rfl, rfl⟩
end
def sD (v : Value) : Nat → A := upd (upd (fun _ => .top) DID (.defs [{ target := .fn (.func 13) #[], args := #[v] }])) (DID + 1) (.pinP v 2 0)
set_option maxHeartbeats 8000000 in
theorem BJ (p : Program) (hS : gN p.classes) (hB : mZ p.classes) (hP : SmallP p) (hlen : p.classes.length ≤ 1048576) (m : Mem) : COk Tryz.prog 10 [.agg (dz p)] m (.c (.int .i64 (jJ p))) := by
 have hcp : dz p = [.sl (p.classes.map ay), .sl (bJ p.main)] := rfl
 have hchk := KX p hS hlen
 have hR : jJ p = if cu (ji p) p.classes = 0 then (if iT p = true then 0 else 70) else cu (ji p) p.classes := rfl
 rw [hR]
 clear hR
 obtain ⟨E, hE⟩ : ∃ E, cu (ji p) p.classes = E := ⟨_, rfl⟩
 rw [hE] at hchk ⊢
 refine FB ah Tryz.func10 (by kernel_rfl) rfl rfl (by rfl) (by rfl) (by rfl) (fun R hkeep => ?_) m
 repeat (first | refine W.q ?_ | refine W.g ?_ Iy)
 refine W.bl ?_
 refine W.ak ah 0 (by decide) ?_
 refine aj 1 Iy ?_
 refine au rfl rfl rfl rfl rfl (by simp) cw1 (hchk _) ?_
 refine xe0 ?_
 refine W.go ?_
 refine W.cond rfl ?_ ?_
 ·intro h
  have he : E ≠ 0 := by simpa using h
  rw [if_neg he]
  refine W.go ?_
  refine W.ret (.inl ⟨.inr rfl, by rfl, ?_⟩)
  simp only [Tryz.f10, bE, aD, toT, fin, exb, simprocAttr]
 intro h
 obtain rfl : E = 0 := by simpa using h
 rw [if_pos rfl]
 have h16 : p.classes.length ≤ 16 := by
  unfold cu at hE
  split at hE
  ·split at hE
   ·cases hE
   ·omega
  ·rename_i h1; exact absurd hE h1
 have hg := O4 hE
 obtain ⟨-, mk⟩ := OZ hE
 have hmm := xK p tNo tNo hS hB h16 hchk [] p.main (by simp) hP.main.1 hP.main.2.1 mk (by have := hP.main.2.2; simp only [List.length_nil]; omega)
 rw [← dO] at hmm
 simp only [List.map_nil] at hmm
 have hpd : iT p = (eF p.classes tNo tNo [] p.main && p.classes.all (jD p.classes)) := rfl
 refine W.bl ?_
 refine W.EZ (j := 2) rfl rfl rfl rfl rfl (by rfl) (fun v => ?_)
 -- what is handed back when it gives up
 have hbad : iT p = false → ∀ (s : Nat → A) (mm : Mem), s 2 = .ptr 2 0 → bE tab ⟨s, upd mm 2 (some (.box 31 [.c (.int .i64 70)]))⟩ [.cell 2 31] = some (.c (.int .i64 (if iT p = true then 0 else 70))) := by
  intro h s mm hs
  rw [h]
  simp only [bE, aD, hs, upd_same]
  rfl
 cases hm0 : eF p.classes tNo tNo [] p.main with
 | false =>
   have hpr : iT p = false := by rw [hpd, hm0]; rfl
   rw [hm0] at hmm
   refine W.bl ?_
   refine W.iZ (base := 0) (ch := dJ) ah 3 (by decide) rfl ?_
   refine aA uI ?_
   exact ⟨_, (dS rfl rfl rfl rfl (by simp) (bZ iA (bZ iA (bZ iA (bZ NQ cw1)))) (hmm _)), .inr ⟨v, 2, by rfl, by rfl, .inr ⟨rfl, _, 0, by rfl, hbad hpr _ _ Pm⟩⟩⟩
 | true =>
 rw [hm0] at hmm hpd
 rw [Bool.true_and] at hpd
 refine W.bl ?_
 refine W.ak ah 0 (by decide) ?_
 refine aj 3 uI ?_
 refine au rfl rfl rfl rfl rfl (by simp) (bZ iA (bZ iA (bZ iA (bZ NQ cw1)))) (hmm _) ?_
 refine aA uI ?_
 repeat (first | refine W.q ?_ | refine W.g ?_ uI)
 refine W.loop (ι := Nat) (fun k => ⟨upd (upd (upd (upd (upd (sD v) 1 (.ptr 1 0)) 2 (.ptr 2 0)) 21 (.c (.sl (p.classes.map ay)))) 22 (.c (.int .i64 p.classes.length))) 23 (.c (.int .i64 k)),
  upd (upd Mem.nil 1 (some (.box 25 [.c (.sl (p.classes.map ay)), .c (.sl (bJ p.main))]))) 2 (some (.box 31 [.c (.int .i64 0)]))⟩)
  (fun k => k ≤ p.classes.length ∧ (p.classes.take k).all (jD p.classes) = true) (fun k => p.classes.length - k) 0 ?start ⟨Nat.zero_le _, rfl⟩ ?round
 case start =>
  refine dh ?sle ?mle ?swf ?mwf ?kept JV
  case kept => exact aI hkeep
  case swf => repeat (first | exact aT _ | refine aU ?_ oV)
  case mwf => repeat (first | exact bY _ | refine bU ?_ qw)
  case mle => repeat (first | exact aZ _ | exact aC _ | refine aY ?_ Qg)
  case sle => repeat (first | exact aQ _ | refine aP ?_ QW)
 case round =>
  rintro k ⟨hk, hall⟩
  repeat (first | refine W.q ?_ | refine W.g ?_ jL)
  refine W.cond rfl ?_ ?_
  ·intro hlt
   replace hlt := dtl hlt
   obtain ⟨c, hx⟩ : ∃ c, p.classes[k]? = some c := ⟨_, List.getElem?_eq_getElem hlt⟩
   have hcm := List.mem_of_getElem? hx
   have hat := cZ (f := ay) hx
   have hall1 : (p.classes.take (k + 1)).all (jD p.classes) = jD p.classes c := by
    rw [List.take_add_one, hx, List.all_append, hall]; simp
   have hcno : jD p.classes c = false → iT p = false := fun h => by
    rw [hpd, List.all_eq_false]
    exact ⟨c, hcm, by rw [h]; decide⟩
   have hcd : jD p.classes c = (c.fields.all (fun s => dK p.classes s.type) && c.methods.all fun m => dK p.classes m.type && eF p.classes c.name m.type m.params m.body) := rfl
   have hbd := fun x hx => (Ko hE hcm (m := x) hx).2
   have hnd := hg.s0.params c hcm
   have hbs := hP.meth c hcm
   have hcs := hS c hcm
   rw [hcd] at hcno hall1
   clear hcd
   obtain ⟨cn, csu, cfs, cms⟩ := c
   simp only [ay] at hat
   dsimp only at hcno hall1 hbd hbs hcs hnd
   repeat (first | refine W.q ?_ | refine W.g ?_ (by simp only [exb, simprocAttr, hat, sD, DID]; rfl))
   refine W.loop (ι := Nat) (fun j => ⟨upd (upd (upd (upd (upd (upd (upd (upd (upd (upd (sD v) 1 (.ptr 1 0)) 2 (.ptr 2 0)) 21 (.c (.sl (p.classes.map ay)))) 22 (.c (.int .i64 p.classes.length))) 23 (.c (.int .i64 k))) 5 (.ptr 5 0)) 6 (.ptr 29 0)) 31 (.c (.sl (cfs.map bC)))) 32 (.c (.int .i64 cfs.length))) 33 (.c (.int .i64 j)),
    upd (upd (upd (upd Mem.nil 1 (some (.box 25 [.c (.sl (p.classes.map ay)), .c (.sl (bJ p.main))]))) 2 (some (.box 31 [.c (.int .i64 0)]))) 5 (some (.box 42 [.c (.str cn), .c (.str csu), .c (.sl (cfs.map bC)), .c (.sl (cms.map aS))]))) 29 (some (.box 53 [.c (.sl (p.classes.map ay)), .c (.sl (bJ p.main)), .c (.str tNo), .c (.str tNo), .c (.sl [])]))⟩)
    (fun j => j ≤ cfs.length ∧ (cfs.take j).all (fun s => dK p.classes s.type) = true) (fun j => cfs.length - j) 0 ?start ⟨Nat.zero_le _, rfl⟩ ?round
   case start =>
    refine dh ?sle ?mle ?swf ?mwf ?kept JV
    case kept => exact aI hkeep
    case swf => repeat (first | exact aT _ | refine aU ?_ oV)
    case mwf => repeat (first | exact bY _ | refine bU ?_ qw)
    case mle => repeat (first | exact aZ _ | exact aC _ | refine aY ?_ Qg)
    case sle => repeat (first | exact aQ _ | refine aP ?_ QW)
   case round =>
    rintro j ⟨hj, hfa⟩
    repeat (first | refine W.q ?_ | refine W.g ?_ jL)
    refine W.cond rfl ?_ ?_
    ·intro hlj
     replace hlj := dtl hlj
     obtain ⟨s, hs⟩ : ∃ s, cfs[j]? = some s := ⟨_, List.getElem?_eq_getElem hlj⟩
     have hfa1 : (cfs.take (j + 1)).all (fun s => dK p.classes s.type) = dK p.classes s.type := by
      rw [List.take_add_one, hs, List.all_append, hfa]; simp
     have hsat := cZ (f := bC) hs
     simp only [bC] at hsat
     have hkn := qN p.classes [.sl (bJ p.main), .str tNo, .str tNo, .sl []] s.type (by omega)
     cases hks : dK p.classes s.type with
     | false =>
       have hpr : iT p = false := hcno (by
        have : cfs.all (fun s => dK p.classes s.type) = false := by
         rw [List.all_eq_false]
         exact ⟨s, List.mem_of_getElem? hs, by rw [hks]; decide⟩
        rw [this]; rfl)
       rw [hks] at hkn
       repeat (first | refine W.q ?_ | refine W.g ?_ Qn)
       refine W.bl ?_
       refine W.iZ (base := 0) (ch := dJ) ah 4 (by decide) rfl ?_
       refine aj 3 jL ?_
       refine bg rfl rfl rfl rfl rfl (by simp) (aB (bX rfl rfl) (aB aV bf)) (by rfl) (by rfl) hkn ?_
       refine aA jL ?_
       exact ⟨_, (dS rfl rfl rfl rfl (by simp) cw1 (eG _)), .inr ⟨v, 2, by rfl, by rfl, .inr ⟨rfl, _, 0, by rfl, hbad hpr _ _ Pm⟩⟩⟩
     | true =>
       rw [hks] at hkn hfa1
       repeat (first | refine W.q ?_ | refine W.g ?_ Qn)
       refine W.bl ?_
       refine W.ak ah 0 (by decide) ?_
       refine aj 3 jL ?_
       refine bg rfl rfl rfl rfl rfl (by simp) (aB (bX rfl rfl) (aB aV bf)) (by rfl) (by rfl) hkn ?_
       refine aj 0 jL ?_
       refine au rfl rfl rfl rfl rfl (by simp) cw1 (dI _) ?_
       refine aA jL ?_
       repeat (first | refine W.q ?_ | refine W.g ?_ jL)
       refine ⟨j + 1, ⟨hlj, hfa1⟩, by omega, ?_⟩
       refine dh ?sle ?mle ?swf ?mwf ?kept JV
       case kept => exact aI hkeep
       case swf => repeat (first | exact aT _ | refine aU ?_ oV)
       case mwf => repeat (first | exact bY _ | refine bU ?_ qw)
       case mle => repeat (first | exact aZ _ | exact aC _ | refine aY ?_ (by first | rfl | (simp only [av, aL, Nat.reduceEqDiff, reduceIte, aR (show j + 1 < 9223372036854775808 by omega)]; done)))
       case sle => repeat (first | exact aQ _ | refine aP ?_ (by first | (simp only [av, sD, DID, aN, aO, simprocAttr, aR (show j + 1 < 9223372036854775808 by omega)]; done) | (simp only [av, sD, DID, aN, aO, simprocAttr, aR (show j + 1 < 9223372036854775808 by omega)]; rfl)))
    ·intro hge
     replace hge := dnl hge
     obtain rfl : j = cfs.length := by omega
     rw [List.take_length] at hfa
     rw [hfa, Bool.true_and] at hcno hall1
     repeat (first | refine W.q ?_ | refine W.g ?_ jL)
     refine W.loop (ι := Nat) (fun i => ⟨upd (upd (upd (upd (upd (upd (upd (upd (upd (upd (sD v) 1 (.ptr 1 0)) 2 (.ptr 2 0)) 21 (.c (.sl (p.classes.map ay)))) 22 (.c (.int .i64 p.classes.length))) 23 (.c (.int .i64 k))) 5 (.ptr 5 0)) 6 (.ptr 29 0)) 44 (.c (.sl (cms.map aS)))) 45 (.c (.int .i64 cms.length))) 46 (.c (.int .i64 i)),
      upd (upd (upd (upd Mem.nil 1 (some (.box 25 [.c (.sl (p.classes.map ay)), .c (.sl (bJ p.main))]))) 2 (some (.box 31 [.c (.int .i64 0)]))) 5 (some (.box 42 [.c (.str cn), .c (.str csu), .c (.sl (cfs.map bC)), .c (.sl (cms.map aS))]))) 29 (some (.box 53 [.c (.sl (p.classes.map ay)), .c (.sl (bJ p.main)), .c (.str tNo), .c (.str tNo), .c (.sl [])]))⟩)
      (fun i => i ≤ cms.length ∧ (cms.take i).all (fun m => dK p.classes m.type && eF p.classes cn m.type m.params m.body) = true) (fun i => cms.length - i) 0 ?start ⟨Nat.zero_le _, rfl⟩ ?round
     case start =>
      refine dh ?sle ?mle ?swf ?mwf ?kept JV
      case kept => exact aI hkeep
      case swf => repeat (first | exact aT _ | refine aU ?_ oV)
      case mwf => repeat (first | exact bY _ | refine bU ?_ qw)
      case mle => repeat (first | exact aZ _ | exact aC _ | refine aY ?_ Qg)
      case sle => repeat (first | exact aQ _ | refine aP ?_ QW)
     case round =>
      rintro i ⟨hi, hma⟩
      repeat (first | refine W.q ?_ | refine W.g ?_ jL)
      refine W.cond rfl ?_ ?_
      ·intro hli
       replace hli := dtl hli
       obtain ⟨mm, hmi⟩ : ∃ mm, cms[i]? = some mm := ⟨_, List.getElem?_eq_getElem hli⟩
       have hmm2 := List.mem_of_getElem? hmi
       have hma1 : (cms.take (i + 1)).all (fun m => dK p.classes m.type && eF p.classes cn m.type m.params m.body) = (dK p.classes mm.type && eF p.classes cn mm.type mm.params mm.body) := by
        rw [List.take_add_one, hmi, List.all_append, hma]; simp
       have hmno : (dK p.classes mm.type && eF p.classes cn mm.type mm.params mm.body) = false → iT p = false := fun h => hcno (by
        rw [List.all_eq_false]
        exact ⟨mm, hmm2, by rw [h]; decide⟩)
       have by2 := hbd mm hmm2
       obtain ⟨bs1, bs2, bs3⟩ := hbs mm hmm2
       have hps := hcs.2.2 mm hmm2
       have hme := xK p cn mm.type hS hB h16 hchk mm.params mm.body (hnd mm hmm2) bs1 bs2 by2 (by omega)
       have hkt := qN p.classes [.sl (bJ p.main), .str tNo, .str tNo, .sl []] mm.type (by omega)
       have hmat := cZ (f := aS) hmi
       rw [← dO] at hme
       obtain ⟨mty, mnm, mps, mbd⟩ := mm
       simp only [aS] at hmat
       dsimp only at hma1 hmno hme hkt
       cases hkm : dK p.classes mty with
       | false =>
         have hpr : iT p = false := hmno (by rw [hkm]; rfl)
         rw [hkm] at hkt
         repeat (first | refine W.q ?_ | refine W.g ?_ Qj)
         refine W.bl ?_
         refine W.iZ (base := 0) (ch := dJ) ah 4 (by decide) rfl ?_
         refine aj 3 jL ?_
         refine bg rfl rfl rfl rfl rfl (by simp) (aB (bX rfl rfl) (aB aV bf)) (by rfl) (by rfl) hkt ?_
         refine aA jL ?_
         exact ⟨_, (dS rfl rfl rfl rfl (by simp) cw1 (eG _)), .inr ⟨v, 2, by rfl, by rfl, .inr ⟨rfl, _, 0, by rfl, hbad hpr _ _ Pm⟩⟩⟩
       | true =>
         rw [hkm] at hkt hma1 hmno
         repeat (first | refine W.q ?_ | refine W.g ?_ Qj)
         refine W.bl ?_
         refine W.ak ah 0 (by decide) ?_
         refine aj 3 jL ?_
         refine bg rfl rfl rfl rfl rfl (by simp) (aB (bX rfl rfl) (aB aV bf)) (by rfl) (by rfl) hkt ?_
         refine aj 0 jL ?_
         refine au rfl rfl rfl rfl rfl (by simp) cw1 (dI _) ?_
         refine aA jL ?_
         refine W.bl ?_
         cases hmt : eF p.classes cn mty mps mbd with
         | false =>
           have hpr : iT p = false := hmno (by rw [hmt]; rfl)
           rw [hmt] at hme
           refine W.iZ (base := 0) (ch := dJ) ah 9 (by decide) rfl ?_
           refine aA jL ?_
           exact ⟨_, (dS rfl rfl rfl rfl (by simp) cw5 (hme _)), .inr ⟨v, 2, by rfl, by rfl, .inr ⟨rfl, _, 0, by rfl, hbad hpr _ _ Pm⟩⟩⟩
         | true =>
           rw [hmt] at hme hma1
           refine W.ak ah 0 (by decide) ?_
           refine aj 9 jL ?_
           refine au rfl rfl rfl rfl rfl (by simp) cw5 (hme _) ?_
           refine aA jL ?_
           repeat (first | refine W.q ?_ | refine W.g ?_ jL)
           refine ⟨i + 1, ⟨hli, hma1⟩, by omega, ?_⟩
           refine dh ?sle ?mle ?swf ?mwf ?kept JV
           case kept => exact aI hkeep
           case swf => repeat (first | exact aT _ | refine aU ?_ oV)
           case mwf => repeat (first | exact bY _ | refine bU ?_ qw)
           case mle => repeat (first | exact aZ _ | exact aC _ | refine aY ?_ (by first | rfl | (simp only [av, aL, Nat.reduceEqDiff, reduceIte, aR (show i + 1 < 9223372036854775808 by omega)]; done)))
           case sle => repeat (first | exact aQ _ | refine aP ?_ (by first | (simp only [av, sD, DID, aN, aO, simprocAttr, aR (show i + 1 < 9223372036854775808 by omega)]; done) | (simp only [av, sD, DID, aN, aO, simprocAttr, aR (show i + 1 < 9223372036854775808 by omega)]; rfl)))
      ·intro hge
       replace hge := dnl hge
       obtain rfl : i = cms.length := by omega
       rw [List.take_length] at hma
       repeat (first | refine W.q ?_ | refine W.g ?_ jL)
       refine ⟨k + 1, ⟨hlt, hall1.trans hma⟩, by omega, ?_⟩
       refine dh ?sle ?mle ?swf ?mwf ?kept JV
       case kept => exact aI hkeep
       case swf => repeat (first | exact aT _ | refine aU ?_ oV)
       case mwf => repeat (first | exact bY _ | refine bU ?_ qw)
       case mle => repeat (first | exact aZ _ | exact aC _ | refine aY ?_ (by first | rfl | (simp only [av, aL, Nat.reduceEqDiff, reduceIte, aR (show k + 1 < 9223372036854775808 by omega)]; done)))
       case sle => repeat (first | exact aQ _ | refine aP ?_ (by first | (simp only [av, sD, DID, aN, aO, simprocAttr, aR (show k + 1 < 9223372036854775808 by omega)]; done) | (simp only [av, sD, DID, aN, aO, simprocAttr, aR (show k + 1 < 9223372036854775808 by omega)]; rfl)))
  ·intro hge
   replace hge := dnl hge
   obtain rfl : k = p.classes.length := by omega
   rw [List.take_length] at hall
   rw [hall] at hpd
   rw [hpd, if_pos rfl]
   repeat (first | refine W.q ?_ | refine W.g ?_ jL)
   refine W.ret (.inr ⟨v, 2, by rfl, by rfl, .inl ⟨.inr rfl, ?_⟩⟩)
   simp only [Tryz.f10, bE, aD, toT, fin, sD, DID, exb, simprocAttr]
end V
end Go.Proofs.YthhpcjoaogmhbaaGreatDoor
end
section
namespace Go.Proofs.YthhpcjoaogmhbaaGreatDoor
namespace V
open Go.RowKit Go.Lib
def jf (l : List UInt8) : List (List C) := l.map fun b => [C.int .u8 b.toNat]
theorem RJ {w : World} {I : Nat → Nat → Prop} (s : ByteArray) : RCs w I (strCells s) (flat (jf s.data.toList)) := by
 unfold strCells jf flat
 generalize s.data.toList = l
 induction l with
 | nil => trivial
 | cons x l ih =>
   simp only [List.map_cons, List.flatten_cons, List.singleton_append]
   exact ⟨.int (by have := x.toNat_lt; simp [Lit.wf, IntKind.min, IntKind.max, IntKind.bits, IntKind.signed]; omega), ih⟩
theorem sQ {P : Go.Program} (w : World) (t u ty e : TypeId) (i : TypeInfo) (ht : P.underlying t = some (.slice e)) (hu : P.underlying u = some .string) (hi : P.info? e = some i) (hz : i.zero = some (.int .u8 0)) (hsize : i.size = 1) (hby : i.bytes = 1)
 (v : Value) (n : Nat) (xs : List Value) (hown : w.ownsRow 0 e 1 v n xs) (s : ByteArray) (h63 : n + s.size ≤ maxLen) (hbytes : n + s.size ≤ 140737488355328) :
 ∃ v' w', (Builtin.append_ #[t, u] ty #[v, .string s]).run P w = .ok v' w' ∧ w'.ownsRow 0 e 1 v' (n + s.size) (xs ++ strCells s) ∧ w'.os = w.os ∧ w'.tape = w.tape ∧ w'.output = w.output ∧
   ((∃ g, v.ownBlock = some g ∧ v'.ownBlock = some g ∧ w'.heap.size = w.heap.size ∧ ∀ k, k ≠ g → w'.heap[k]? = w.heap[k]?) ∨ (Below w.heap.size w w' ∧ ∀ k, v'.ownBlock = some k → w.heap.size ≤ k) ∨ (v' = v ∧ w' = w)) := by
 have hsmall : n + s.size ≤ 9223372036854775807 := by simp only [maxLen] at h63; omega
 have hxl : xs.length = n := by simpa using hown.1
 have hlen : (xs ++ strCells s).length = (n + s.size) * 1 := by rw [List.length_append, hxl, strCells_length, Nat.mul_one]
 have grown : ∀ (old : Nat), old < n + s.size →
  (w.drew.alloc (.cells (xs.toArray ++ (strCells s).toArray ++ Builtin.zeroCells (Value.int .u8 0).cells (grownCap w (n + s.size) old e - (n + s.size))) e)).ownsRow 0 e 1
    (.slice (some ⟨w.heap.size, 0, none⟩) (n + s.size) (grownCap w (n + s.size) old e)) (n + s.size) (xs ++ strCells s) ∧
  Below w.heap.size w (w.drew.alloc (.cells (xs.toArray ++ (strCells s).toArray ++ Builtin.zeroCells (Value.int .u8 0).cells (grownCap w (n + s.size) old e - (n + s.size))) e)) := by
  intro old ho
  have hge := grownCap_ge w (n + s.size) old e
  have hcm : grownCap w (n + s.size) old e ≤ maxLen := grownCap_le_maxLen w (n + s.size) old e h63
  refine ⟨⟨hlen, .inr ⟨w.heap.size, _, _, rfl, Nat.zero_le _, heap_alloc_new w.drew _, hge, hcm, ?_, ?_⟩⟩, (Below.refl w.heap.size w).drew.alloc (Nat.le_refl _) _⟩
  ·have hz1 : (Value.int IntKind.u8 0).cells.size = 1 := rfl
   simp only [Array.size_append, List.size_toArray, size_zeroCells, hz1, hxl, strCells_length]
   omega
  ·simp only [Array.toList_append, List.append_assoc]
   rw [← List.append_assoc, ← hlen]
   exact List.take_left
 rcases hown.2 with ⟨rfl, rfl⟩ | ⟨g, cap, cur, rfl, hbg, hg, hnc, hcm, hcs, htake⟩
 ·have hx : xs = [] := List.eq_nil_of_length_eq_zero hxl
  subst hx
  by_cases hm : s.size = 0
  ·have hn : strCells s = [] := List.eq_nil_of_length_eq_zero (by rw [strCells_length]; exact hm)
   refine ⟨.slice none 0 0, w, ?_, by rw [hm, hn]; exact World.ownsRow_nil w 0 e 1, rfl, rfl, rfl, .inr (.inr ⟨rfl, rfl⟩)⟩
   have hf := run_firstCells_string (P := P) w 1 s
   rw [hm] at hf
   simp [Builtin.append_, run_underlying ht, run_underlying hu, sizeOf, typeInfo, hi, hsize, Builtin.lenOf, hm, hf]
  ·have hr := run_append_nil_string (P := P) w t u ty e i (.int .u8 0) ht hu hi hz s (by omega) (by omega) (by rw [hby]; omega)
   have hgr := grown 0 (by omega)
   simp only [Nat.zero_add, List.nil_append, Array.empty_append] at hgr ⊢
   have e1 : (s.data.map fun b => Value.int .u8 b.toNat) = (strCells s).toArray := by
    apply Array.ext'
    simp [strCells]
   rw [e1] at hr
   exact ⟨_, _, hr, hgr.1, rfl, rfl, rfl, .inr (.inl ⟨hgr.2, fun k hk => by simp [Value.ownBlock] at hk; omega⟩)⟩
 ·by_cases hroom : n + s.size ≤ cap
  ·have hcs' : cur.size = cap := by simpa using hcs
   have hr := run_append_room_string (P := P) w t u ty e i ht hu hi hsize g n cap cur hg s hroom (by omega)
   refine ⟨_, _, hr, ⟨hlen, .inr ⟨g, cap, _, rfl, hbg, setRow_heap w g cur _ e _ hg, hroom, hcm, ?_, ?_⟩⟩, rfl, rfl, rfl, .inl ⟨g, rfl, rfl, by simp, fun k hk => setRow_other w g k _ hk⟩⟩
   ·simp only [List.size_toArray, List.length_append, List.length_take, List.length_drop, Array.length_toList, strCells_length]
    omega
   ·have ht' : cur.toList.take n = xs := by simpa using htake
    rw [ht', ← hlen]
    exact List.take_left
  ·have holds : ∀ j u, xs[j]? = some u → w.cell? ((⟨g, 0, none⟩ : Addr).add j) = some u := hown.cells (g := g) rfl
   have hr := run_append_grow_string (P := P) w t u ty e i (.int .u8 0) ht hu hi hz ⟨g, 0, none⟩ n cap xs (by rw [hsize]; simpa using hxl) holds s (by omega) (by omega) (by rw [hby]; exact growslice_fits (by omega) (by omega))
   have hgr := grown cap (by omega)
   exact ⟨_, _, hr, hgr.1, rfl, rfl, rfl, .inr (.inl ⟨hgr.2, fun k hk => by simp [Value.ownBlock] at hk; omega⟩)⟩
structure HAppendS (T : Tab) (ops : Array Oper) (o : Oper) (st : St) (c : Call) (x y : Operand) (t u d id e : Nat) (xs : List (List C)) (s : ByteArray) : Prop where
 want : fE ops o st.s = some true
 op : o.op = .call c
 callee : c.callee = .builtin .append
 args : c.args = #[x, y]
 tys : c.argTypes = #[t, u]
 dst : o.dst = some d
 at_ : ev st.s x = .own id
 arr : st.m id = some (.arr e 1 xs)
 val : ev st.s y = .c (.str s)
 elem : T.elem t = some (e, 1)
 str : T.str u = true
 bytes : T.bytes e = some 1
 one : T.one e = some (.int .u8 0)
 small : xs.length + s.size ≤ 140737488355328
section
variable {P : Go.Program} {T : Tab} (hT : T.Ok P) {kp : Nat → Prop} {ops : Array Oper}
include hT
theorem ER {o : Oper} {st : St} {c : Call} {x y : Operand} {t u d id e : Nat} {xs : List (List C)} {s : ByteArray} (hkp : ¬ kp id) (h : HAppendS T ops o st c x y t u d id e xs s) :
 Eff P T kp ops o st ⟨upd (gD id st.s) d (.own id), upd (eH id st.m) id (some (.arr e 1 (xs ++ jf s.data.toList)))⟩ := by
 refine ⟨by rw [h.op]; simp [kind, h.callee], fun hw => ?_, fun R n0 ds a w K Q hR hr hd hK => ?_⟩
 ·refine Ej hw h.arr (fun i hi => ?_) d _ (fun i hi => ?_)
  ·simp [O.ids] at hi
  ·simp [A.ids] at hi; subst hi; simp [h.arr]
 ·obtain ⟨B, I, hm, hx0, hkp0, hs⟩ := hr.ex
  rw [fP hs h.want, if_pos rfl]
  obtain ⟨hu, hn0, i, hi, hin⟩ := hT.elem _ _ _ h.elem
  obtain ⟨i2, hi2, hib⟩ := hT.bytes _ _ h.bytes
  obtain ⟨i3, hi3, hz0, -⟩ := hT.one _ _ h.one
  have e1 : i2 = i := Option.some.inj (hi2.symm.trans hi)
  have e2 : i3 = i := Option.some.inj (hi3.symm.trans hi)
  subst e1 e2
  have hx := iK hs x
  rw [h.at_] at hx
  obtain ⟨hx, -⟩ := hx
  have hy := iK hs y
  rw [h.val] at hy
  have hy : RC w I (a.eval y) (.str s) := hy
  obtain ⟨hyv, -⟩ := hy.toStr
  have hml : (140737488355328 : Nat) ≤ maxLen := by unfold maxLen; decide
  have fin : ∃ v' w' I', (Builtin.append_ #[t, u] o.type #[B id, .string s]).run P w = .ok v' w' ∧ (∃ aa nn cc, v' = .slice aa nn cc) ∧ MR R.w0 R.I0 (upd B id v') I' (upd (eH id st.m) id (some (.arr e 1 (xs ++ jf s.data.toList)))) w' ∧ Ext w w' I I' := by
   obtain ⟨vs, hv, hvs, hlx, hiff⟩ := hm.objs id _ h.arr
   obtain ⟨v', w', r1, r2, r3, r4, r5, r6⟩ := sQ (P := P) w t u o.type e i3 hu (hT.str _ h.str) hi3 hz0 hin hib (B id) xs.length vs hv s (Nat.le_trans h.small hml) h.small
   have hbl : (jf s.data.toList).length = s.size := by unfold jf; rw [List.length_map, Array.length_toList]; rfl
   rw [← hbl] at r2
   obtain ⟨I', hm', hE⟩ := hm.append h.arr hv hvs hlx hiff r2 (RJ s) (fun z hz => by obtain ⟨b, -, rfl⟩ := List.mem_map.1 hz; rfl) r3 r4 r5 r6
   refine ⟨v', w', I', r1, ?_, hm', hE⟩
   rcases r2.2 with ⟨q, -⟩ | ⟨g, cap, cur, q, -⟩
   ·exact ⟨_, _, _, q⟩
   ·exact ⟨_, _, _, q⟩
  obtain ⟨v', w', I', r1, hsh, hm', hE⟩ := fin
  have hrun : (execOp a.eval o).run P w = .ok (.value v') w' := by
   obtain ⟨cal, args, tys⟩ := c
   have h7 := h.callee
   have h8 := h.args
   have h9 := h.tys
   simp only at h7 h8 h9
   subst h7 h8 h9
   simp only [execOp, h.op, resolve, invoke, builtin, Sem.run_bind, Sem.run_pure, Result.andThen_ok, List.map_toArray, List.map_cons, List.map_nil, hx, hyv, r1]
  unfold Oper.wp Oper.upon
  rw [hrun]
  have hdlt : ∀ q, o.dst = some q → q < a.tmps.size := fun q hq => by rw [hr.size]; exact hd q hq
  have hkill : ∀ t', RV (upd B id v') w' I' ((st.s t').kill id) (a.tmps.getD t' undef) := fun t' => by
   rcases (A.dW (id := id) (a := st.s t')).2 with q | ⟨q, hnn⟩
   ·rw [q]; trivial
   ·rw [q]
    exact (hs t').mono hE fun j hj => upd_ne _ _ (fun e => hnn (e ▸ hj))
  have hput := uz (dst := o.dst) (r := A.own id) (v := v') hkill ⟨(upd_same B id v').symm, hsh⟩ hdlt
  rw [h.dst] at hput
  have hwf : WF ⟨upd (gD id st.s) d (.own id), upd (eH id st.m) id (some (.arr e 1 (xs ++ jf s.data.toList)))⟩ := Ej hr.wf h.arr (fun i hi => by simp [O.ids] at hi) d _ (fun i hi => by simp [A.ids] at hi; subst hi; simp [h.arr])
  refine hK _ _ ⟨⟨_, I', hm', hx0.trans hE, fun j hj => ?_, by rw [h.dst]; exact hput⟩, hwf.ids, by rw [(fJ _ _ _).1]; exact hr.size, hr.nn, by
   rw [(fJ _ _ _).2]
   have hdd : DID ≠ d := fun q => absurd (hd d h.dst) (Nat.not_lt.2 (q ▸ hr.nn))
   show a.defers = dfs (upd (gD id st.s) d (.own id) DID) ++ ds
   rw [upd_ne _ _ hdd, aM, nD]; exact hr.defs, fun j hj => ?_⟩
  ·rw [upd_ne _ _ (fun e => by subst e; rw [hR] at hj; exact hkp hj)]; exact hkp0 j hj
  ·have := hr.kept j hj
   show (upd (eH id st.m) id _ j).isSome = true
   unfold upd; split
   ·rfl
   ·simpa [aL] using this
omit hT in
theorem Dt (hT : T.Ok P) {base : Nat} {o : Oper} {l : List Oper} {st : St} {k : St → Prop} {c : Call} {x y : Operand} {t u d : Nat} (id : Nat) {e : Nat} {xs : List (List C)} {s : ByteArray} (h : fE ops o st.s = some true) (hop : o.op = .call c) (hc : c.callee = .builtin .append) (ha : c.args = #[x, y]) (ht : c.argTypes = #[t, u]) (hd : o.dst = some d)
 (hx : ev st.s x = .own id) (hm : st.m id = some (.arr e 1 xs)) (hy : ev st.s y = .c (.str s)) (h1 : T.elem t = some (e, 1)) (h2 : T.str u = true) (h3 : T.bytes e = some 1) (h4 : T.one e = some (.int .u8 0)) (hkp : ¬ kp id) (hb : xs.length + s.size ≤ 140737488355328)
 (ht2 : jG P T kp base ops l ⟨upd (gD id st.s) d (.own id), upd (eH id st.m) id (some (.arr e 1 (xs ++ jf s.data.toList)))⟩ k) : jG P T kp base ops (o :: l) st k :=
 kQ (.eff (ER hT hkp ⟨h, hop, hc, ha, ht, hd, hx, hm, hy, h1, h2, h3, h4, hb⟩)) ht2
end
end V
end Go.Proofs.YthhpcjoaogmhbaaGreatDoor
end
section
namespace Go.Proofs.YthhpcjoaogmhbaaGreatDoor
open Go.RowKit
set_option maxRecDepth 100000 in
theorem Bh (b : Nat) (w : World) (h0 : w.cell? ⟨b, 0, none⟩ = some (.pointer (some ⟨b, 0, none⟩))) :
 Calls Tryz.prog 114 #[.pointer (some ⟨b, 0, none⟩)] w fun e w' => e = .returned (.tuple #[]) ∧ w' = w := by
 have hsz : ((Tryz.prog).info? 72).map (·.size) = some 2 := by kernel_rfl
 obtain ⟨j, hj, hjs⟩ := Option.map_eq_some_iff.1 hsz
 go_enter Tryz.func114, Tryz.ntmps114
 go_wp2
 rw [Lib.run_neq_ptr_same w _ Tryz.underlying69 hj]
 go_wp2
 go_end0
 exact ⟨rfl, rfl⟩
set_option maxRecDepth 100000 in
theorem yK (b : Nat) (w : World) (h0 : w.cell? ⟨b, 0, none⟩ = some (.pointer none)) (hsh : w.shape? b = some (74, 3)) (hfz : w.frozen? ⟨b, 0, none⟩ = false) :
 Calls Tryz.prog 114 #[.pointer (some ⟨b, 0, none⟩)] w fun e w' => e = .returned (.tuple #[]) ∧ w' = w.setCell ⟨b, 0, none⟩ (.pointer (some ⟨b, 0, none⟩)) := by
 have hsz : ((Tryz.prog).info? 72).map (·.size) = some 2 := by kernel_rfl
 obtain ⟨j, hj, hjs⟩ := Option.map_eq_some_iff.1 hsz
 have hlies : liesAt Tryz.prog (Tryz.prog).depth 74 (3 / (Tryz.prog).cellsOf 74) 0 72 1 = true := by kernel_rfl
 go_enter Tryz.func114, Tryz.ntmps114
 go_wp2
 rw [Lib.run_to_unsafe w ⟨b, 0, none⟩ Tryz.underlying69 Tryz.underlying143 hj (by rw [hjs]; decide) hsh (Nat.zero_lt_succ 2)]
 simp only [Result.andThen]
 rw [Oper.upon_value]
 go_wp2
 rw [run_callFunc_extern Tryz.func119 (by kernel_rfl) (by kernel_rfl) (by kernel_rfl) (e := Extern.AbiNoEscape.same) (by kernel_rfl)]
 rw [Lib.run_noEscape]
 simp only [Result.andThen]
 rw [Oper.upon_value]
 go_wp2
 rw [Lib.run_from_unsafe w ⟨b, 0, none⟩ Tryz.underlying143 Tryz.underlying69 hj hsh hlies]
 simp only [Result.andThen]
 rw [Oper.upon_value]
 go_wp2
 go_end0
 exact ⟨rfl, rfl⟩
end Go.Proofs.YthhpcjoaogmhbaaGreatDoor
end
section
namespace Go.Proofs.YthhpcjoaogmhbaaGreatDoor
namespace V
open Go.RowKit
def JC (u : Bool) (j : Nat) : A := if u = true then .ptr j 0 else .nilv (.pointer none)
def qg (u : Bool) (j q : Nat) (t : Int) : O := .box 74 [JC u j, .own q, .c (.int .i64 t)]
theorem Dw {M : Mem} {j q : Nat} {t : Int} (u : Bool) (hj : M j = some (qg u j q t)) (hq : (M q).isSome = true) : gU Tryz.prog 114 [.ptr j 0] M [] (.tup []) (upd M j (some (qg true j q t))) := by
 have hjs : (M j).isSome = true := by rw [hj]; rfl
 have hids : ∀ i ∈ (qg true j q t).ids, (M i).isSome = true := fun i hi => by
  simp [qg, JC, O.ids, A.ids] at hi
  rcases hi with rfl | rfl
  ·exact hjs
  ·exact hq
 refine ⟨enters_of Tryz.func114 (by kernel_rfl) rfl, fun i hi => by simp [A.ids] at hi, fun i hi => bV i hi, fun hw => dA hw (fun i hi => bV i (hids i hi)), ?_⟩
 intro w0 I0 B I w vals hm hv
 match vals, hv with
 | [v], ⟨h1, _⟩ =>
   obtain ⟨b, vs, hB, hh, hvs, hno⟩ := hm.objs j _ hj
   obtain ⟨b', hB', rfl⟩ := h1
   obtain rfl : b = b' := by rw [hB] at hB'; cases hB'; rfl
   match vs, hvs with
   | [x0, x1, x2], ⟨⟨h0, c0⟩, ⟨hx1, c1⟩, ⟨hx2, c2⟩, _⟩ =>
     cases u with
     | true =>
       obtain ⟨b2, hB2, hx0⟩ := h0
       obtain rfl : b = b2 := by rw [hB] at hB2; cases hB2; rfl
       subst hx0
       refine (Bh b w (by simp [World.cell?, hh])).mono ?_
       rintro e w' ⟨rfl, rfl⟩
       exact ⟨_, B, I, rfl, by rw [wX M hj]; exact hm, Ext.refl _ _, fun _ _ _ => rfl, [], rfl, trivial⟩
     | false =>
       have h0 : x0 = .pointer none := h0
       subst h0
       refine (yK b w (by simp [World.cell?, hh]) (by simp [World.shape?, hh]) (by simp [World.frozen?, hh])).mono ?_
       rintro e w' ⟨rfl, rfl⟩
       have hset : (w.setCell ⟨b, 0, none⟩ (.pointer (some ⟨b, 0, none⟩))).heap[b]? = some (.cells ([.pointer (some ⟨b, 0, none⟩), x1, x2] : List Value).toArray 74) := by
        simp only [World.setCell, Array.getElem?_modify, if_true, hh]
        rfl
       have ht := hm.turn (w' := w.setCell ⟨b, 0, none⟩ (.pointer (some ⟨b, 0, none⟩))) (j := j) (b := b) (o' := qg true j q t) hj ⟨0, hB⟩ (fun k hk => by
        obtain ⟨off, hk⟩ := hk
        rw [hB] at hk; cases hk; rfl) hno rfl rfl rfl (by simp [World.setCell]) (fun k hk => Below.heap_setCell w ⟨b, 0, none⟩ _ k hk) hids (fun hE => ⟨b, [.pointer (some ⟨b, 0, none⟩), x1, x2], hB, hset, ⟨⟨⟨b, hB, rfl⟩, rfl⟩, ⟨hx1.mono hE (fun _ _ => rfl), c1⟩, ⟨hx2.mono hE (fun _ _ => rfl), c2⟩, trivial⟩, hno⟩)
       exact ⟨_, B, I, rfl, ht.1, ht.2, fun _ _ _ => rfl, [], rfl, trivial⟩
def xZ (bs : List UInt8) : O := .arr 5 1 (jf bs)
def pgM (M : Mem) (j q : Nat) (u : Bool) (t : Int) (bs : List UInt8) : Mem := upd (upd M j (some (qg u j q t))) q (some (xZ bs))
structure PgAt (M : Mem) (j q : Nat) (u : Bool) (t : Int) (bs : List UInt8) : Prop where
 box : M j = some (qg u j q t)
 row : M q = some (xZ bs)
 ne : j ≠ q
 only : ∀ i o, M i = some o → i ≠ j → O.kill q o = o
theorem PgAt.pgM {M : Mem} {j q : Nat} {u u' : Bool} {t t' : Int} {bs bs' : List UInt8} (h : PgAt M j q u t bs) : PgAt (pgM M j q u' t' bs') j q u' t' bs' where
 box := by unfold V.pgM; rw [upd_ne _ _ h.ne, upd_same]
 row := by unfold V.pgM; rw [upd_same]
 ne := h.ne
 only := fun i o ho hi => by
  unfold V.pgM at ho
  by_cases e : i = q
  ·subst e; rw [upd_same] at ho; cases ho; rfl
  ·rw [upd_ne _ _ e, upd_ne _ _ hi] at ho; exact h.only i o ho hi
theorem Ba {M : Mem} {j q : Nat} {u : Bool} {t : Int} {bs : List UInt8} (h : PgAt M j q u t bs) : pgM M j q u t bs = M := by
 unfold pgM
 rw [wX M h.box, wX M h.row]
theorem mq {M : Mem} {j q : Nat} {u u' : Bool} {t t' : Int} {bs bs' : List UInt8} (h : j ≠ q) : pgM (pgM M j q u t bs) j q u' t' bs' = pgM M j q u' t' bs' := by
 funext i
 unfold pgM upd
 by_cases e1 : i = q
 ·simp [e1]
 ·by_cases e2 : i = j <;> simp [e1, e2]
theorem iI {M : Mem} {j q : Nat} {u : Bool} {t : Int} {bs : List UInt8} : ∀ i, (M i).isSome = true → (pgM M j q u t bs i).isSome = true := fun i hi => bV i (bV i hi)
theorem nJ {M : Mem} {j q : Nat} {u u' : Bool} {t t' : Int} {bs bs' : List UInt8} (h : PgAt M j q u t bs) (hw : WFm M) : WFm (pgM M j q u' t' bs') := by
 have hjs : (M j).isSome = true := by rw [h.box]; rfl
 have hqs : (M q).isSome = true := by rw [h.row]; rfl
 refine dA (dA hw (fun i hi => bV i ?_)) (fun i hi => by simp [xZ, O.ids] at hi)
 unfold qg JC at hi
 cases u' <;> simp [O.ids, A.ids] at hi
 ·subst hi; exact hqs
 ·rcases hi with rfl | rfl
  ·exact hjs
  ·exact hqs
theorem Ki {M : Mem} {j q : Nat} {u : Bool} {t : Int} {bs : List UInt8} (h : PgAt M j q u t bs) (s : ByteArray) (hs : bs.length + s.size ≤ 140737488355328) : gU Tryz.prog 97 [.ptr j 0, .c (.str s)] M [q] (.tupA [.c (.int .i64 s.size), .nilv .nilIface]) (pgM M j q true t (bs ++ s.data.toList)) := by
 have hjs : (M j).isSome = true := by rw [h.box]; rfl
 have hqs : (M q).isSome = true := by rw [h.row]; rfl
 have jq : (j = q) = False := eq_false h.ne
 have qj : (q = j) = False := eq_false (Ne.symm h.ne)
 have hq := h.row
 have hcb : (jf bs).length = bs.length := by unfold jf; rw [List.length_map]
 refine (oZ ah [q] Tryz.func97 (by kernel_rfl) rfl rfl (by rfl) (by rfl) ?ids ?res ?sub ?wfm (fun hWF Rr hkeep => ?_))
 case ids => intro a ha i hi; simp at ha; rcases ha with rfl | rfl <;> simp [A.ids] at hi; subst hi; exact hjs
 case res => intro i hi; simp [A.ids, A1.ids] at hi
 case sub => exact iI
 case wfm => exact nJ h
 have nkq : ¬ Rr.keep q := by rw [hkeep]; intro hh; exact hh.2 (by simp)
 refine W.go ?_
 refine W.bl ?_
 refine W.ak ah 0 (by decide) ?_
 refine xs0 1 ?_
 refine aJ (D := []) rfl rfl rfl rfl rfl (fun j hj => by simp at hj) (by simp) cw1 (Dw u h.box hqs) ?_
 simp only [bQ, dw, iO]
 refine xe0 ?_
 refine W.bl ?_
 refine W.ak ah 0 (by decide) ?_
 refine aj 6 SX ?_
 refine Dt ah q rfl rfl rfl rfl rfl rfl (by simp only [exb, simprocAttr]) SX (by simp only [exb, simprocAttr]; rfl) rfl rfl rfl rfl nkq (by rw [hcb]; exact hs) ?_
 refine aA (by simp only [exb, simprocAttr, aL, aM, A.kill, O.kill, qg, JC, upd_same, jq, qj, hq, xZ, List.map_cons, List.map_nil, Option.map_some]; rfl) ?_
 refine W.bl ?_
 refine W.ak ah 0 (by decide) ?_
 refine xe0 ?_
 refine W.bl ?_
 refine W.ret ⟨.inr rfl, by rfl, ?_, ?mle⟩
 simp only [Tryz.f97, resE, aD, fin, toT, exb, simprocAttr]
 case mle =>
  intro i
  have hbx := h.box
  by_cases e1 : i = q
  ·subst e1; right; simp [av, pgM, xZ, jf, qj]
  by_cases e2 : i = j
  ·subst e2; right; simp [av, pgM, qg, JC, jq, A.kill]
  cases ho : M i with
  | none => left; simp [av, pgM, e1, e2, ho]
  | some o => right; simp [av, pgM, e1, e2, aL, ho, h.only i o ho e2]
theorem H9 {w0 w : World} {I0 I : Nat → Nat → Prop} {B : Nat → Value} {m M' : Mem} (hm : MR w0 I0 B I m w) (hle : MLe m M') (hw : WFm M') : MR w0 I0 B I M' w := by
 have hsome : ∀ j o, M' j = some o → m j = some o := fun j o ho => by
  rcases hle j with q | q
  ·rw [q] at ho; cases ho
  ·exact q.symm.trans ho
 exact ⟨hm.below, hm.glob, hm.base, hm.old, hm.there, fun j o ho => hm.objs j o (hsome j o ho), fun j o ho => hm.low j o (hsome j o ho), fun j o j' o' ho ho' => hm.apart j o j' o' (hsome j o ho) (hsome j' o' ho'), fun j o ho i hi => hw j o ho i hi⟩
def Dl (P : Go.Program) (f : FuncId) (args : List A) (M : Mem) (D : List Nat) (M' : Mem) : Prop :=
 (∀ args w, (callFunc f args).run P w = .ok (.enter f args) w) ∧ (∀ j, (M j).isSome = true → (M' j).isSome = true) ∧ (WFm M → WFm M') ∧
 ∀ (w0 : World) (I0 : Nat → Nat → Prop) (B : Nat → Value) (I : Nat → Nat → Prop) (w : World) (vals : List Value) (u : FrameMode), MR w0 I0 B I M w → RVl B w I args vals →
   CallsD P f vals.toArray u w fun e u' w' => u' = u ∧ ∃ v B' I', e = .returned v ∧ MR w0 I0 B' I' M' w' ∧ Ext w w' I I' ∧ ∀ j, (M j).isSome = true → j ∉ D → B' j = B j
theorem N9 {P : Go.Program} {T : Tab} (hT : T.Ok P) {f : FuncId} {fn : Func} {c : Code} {l : List ResultVar} {args : List A} {M : Mem} (D : List Nat) {r : A} {M' : Mem} (hf : P.funcs[f]? = some fn) (hn : (fn.name == "runtime.NumGoroutine") = false) (hb : fn.body = some c) (hl : fn.results.toList = l)
 (hle : decide (args.length ≤ fn.ntmps ∧ fn.ntmps ≤ DID) = true) (hdf : args.all (fun a => !(match a with | .defs _ => true | _ => false)) = true) (hids : ∀ a ∈ args, ∀ j ∈ a.ids, (M j).isSome = true) (hsub : ∀ j, (M j).isSome = true → (M' j).isSome = true) (hwm : WFm M → WFm M')
 (hW : WFm M → ∀ R : Ref, R.keep = (fun j => (M j).isSome = true ∧ j ∉ D) → W P R fn.ntmps [] ⟨entry args, M⟩ c (fun e st => (e = .normal ∨ e = .ret) ∧ dfs (st.s DID) = [] ∧ resE T st l = some r ∧ MLe st.m M')) : Dl P f args M D M' := by
 refine ⟨enters_of hf hn hb, hsub, hwm, ?_⟩
 intro w0 I0 B I w vals u hm hv
 have hWF : WFm M := hm.live
 have hd2 : ∀ a ∈ args, ∀ l, a ≠ .defs l := fun a ha l e => by have := List.all_eq_true.1 hdf a ha; subst e; simp at this
 obtain ⟨hl1, hl2⟩ := of_decide_eq_true hle
 have hlen := lZ hv
 refine callsD_of_wp (R := fun e w' => ∃ v B' I', e = .returned v ∧ MR w0 I0 B' I' M' w' ∧ Ext w w' I I' ∧ ∀ j, (M j).isSome = true → j ∉ D → B' j = B j) hf hb ?_
 have h0 : SR ⟨w0, I0, w, I, B, fun j => (M j).isSome = true ∧ j ∉ D⟩ fn.ntmps [] ⟨entry args, M⟩ { tmps := vals.toArray ++ Array.replicate (fn.ntmps - vals.toArray.size) undef, defers := [] } w := by
  refine ⟨⟨B, I, hm, Ext.refl _ _, fun _ _ => rfl, j4 hv⟩, fun t i hi => ?_, by simp [hlen]; omega, hl2, by rw [show dfs ((⟨entry args, M⟩ : St).s DID) = [] from j6 (fun a ha l e => by subst e; exact hd2 _ ha l rfl)]; rfl, fun i hi => hi.1⟩
  simp only [entry, List.getD_eq_getElem?_getD] at hi
  cases hx : args[t]? with
  | none => rw [hx] at hi; simp [A.ids] at hi
  | some a => rw [hx] at hi; exact hids a (List.mem_of_getElem? hx) i hi
 refine wp_mono (hW hWF _ rfl _ w h0) ?_
 rintro e a' w' ⟨st', ⟨he, hdn, hres, hle2⟩, ⟨⟨B', I', hm', hx', hkp', hs'⟩, -, -, -, hds, -⟩⟩
 rw [hdn] at hds
 obtain ⟨v, h1, h2⟩ := zB hT hm' hs' hl hres
 have key : a'.defers = [] ∧ ∃ v, (results fn a'.tmps).run P w' = .ok v w' ∧ ∃ v' B' I', Ending.returned v = .returned v' ∧ MR w0 I0 B' I' M' w' ∧ Ext w w' I I' ∧ ∀ j, (M j).isSome = true → j ∉ D → B' j = B j :=
  ⟨hds, v, h1, v, B', I', rfl, H9 hm' hle2 (hwm hWF), hx', fun j hj hd => hkp' j ⟨hj, hd⟩⟩
 rcases he with rfl | rfl
 ·exact key
 ·exact key
end V
end Go.Proofs.YthhpcjoaogmhbaaGreatDoor
end
