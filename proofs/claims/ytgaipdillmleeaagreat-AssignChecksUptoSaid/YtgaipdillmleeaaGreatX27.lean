/- Joined by my own program, in build order: Va, Vb, Vc. -/
import Derived.Test.YtgaipdillmleeaaGreatX3
import Derived.WalkKit
import Derived.ProofKit
import Derived.Lib.Hide
import Derived.Laws.AppendOwn
import Derived.Deep.AppendLies
import Derived.OwnWalk
import Derived.Deep.OwnRows
import Derived.MapKept
set_option linter.unusedVariables false
set_option linter.unusedSimpArgs false
section
namespace Go.Proofs.YtgaipdillmleeaaGreat
section
set_option linter.defProp false
variable {q p : Prop}
def zq1 (h:p:=by first | rfl | (simp only [ak, aB, O.kill, A.kill, Nat.reduceEqDiff, reduceIte, Option.map_some, Option.map_none, List.map_cons, List.map_nil, au, bH, gK, aP (show q + 1 < 9223372036854775808 by have := (hS c hc).2.1; omega)]; done)):=h
def zq2 (h:p:=by first | rfl | (simp only [ak, aD, aC, Nat.reduceEqDiff, reduceIte, List.map_append, List.append_assoc, List.map_cons, List.map_nil, aJ, List.nil_append, List.cons_append, aP (show k + 1 < 9223372036854775808 by omega)]; done)):=h
def zq3 (h:p:=by first | rfl | (simp only [ak, aD, aC, Nat.reduceEqDiff, reduceIte, List.length_append, List.length_singleton, aP (show ts.length + 1 < 9223372036854775808 by omega), List.map_append, List.map_cons, List.map_nil, cStr]; done)):=h
def zq4 (h:p:=by first | rfl | (simp only [ak, aB, Nat.reduceEqDiff, reduceIte, List.map_append, List.append_assoc, List.map_cons, List.map_nil, aJ, List.nil_append, List.cons_append, aP (show k + 1 < 9223372036854775808 by omega)]; done)):=h
def zq5 (h:p:=by first | rfl | (simp only [ak, aB, Nat.reduceEqDiff, reduceIte, List.length_append, List.length_singleton, aP (show ts.length + 1 < 9223372036854775808 by omega), List.map_append, List.map_cons, List.map_nil, cStr]; done)):=h
def zq6 (h:p:=by have h1 := (hS kc (List.mem_of_getElem? hkc)).1; have h2 := pG hS ((upX cs (cs.length + 1) 0 c.name).take k); have h3 := List.length_take_le k (upX cs (cs.length + 1) 0 c.name); simp only [List.length_map, dD]; omega):=h
def zq7 (h:p:=by simp only [jS, exb, simprocAttr, hc0, he, cb, bc, eb, be, ce, ec, Nat.add_left_cancel_iff, Nat.add_eq_left, Nat.left_eq_add, upd_same, aB, bB, A.kill, O.kill, List.map_cons, List.map_nil, Option.map_some] <;> rfl):=h
def zq8 (h:p:=by first | rfl | (simp only [ak, bB, A.kill, aD, aC, Nat.reduceEqDiff, reduceIte, au, bH, gK, aP (show q + 1 < 9223372036854775808 by have := (hS c hc).2.1; omega)]; done)):=h
def zq9 (h:p:=by simp only [exb, simprocAttr, hc0, he, cb, bc, eb, be, ce, ec, Nat.add_left_cancel_iff, Nat.add_eq_left, Nat.left_eq_add, upd_same, List.map_cons, List.length_cons, List.length_map, hz2, cStr, hi, hi2] <;> rfl):=h
def aaV (h:p:=by intro j hj; simp only [O.ids] at hj; first | (rw [gD] at hj; cases hj) | (rw [← mE, gD] at hj; cases hj) | (simp [A.ids] at hj; done) | (simp [A.ids, ak] at hj ⊢; simp [hj])):=h
def aaM (h:p:=by simp only [exb, simprocAttr, hc0, he, cb, bc, eb, be, ce, ec, Nat.add_left_cancel_iff, Nat.add_eq_left, Nat.left_eq_add, upd_same, List.map_cons, List.length_cons, List.length_map, hz, hz2, cStr] <;> rfl):=h
def WX (h:p:=by simp only [exb, simprocAttr, hc0, he, cb, bc, eb, be, ce, ec, Nat.add_left_cancel_iff, Nat.add_eq_left, Nat.left_eq_add, upd_same, List.map_cons, List.length_cons, List.length_map, hz2, cStr, hi] <;> rfl):=h
def abP (h:p:=by first | rfl | (simp only [ak, aD, aC, Nat.reduceEqDiff, reduceIte, aP (show k + 1 < 9223372036854775808 by omega), List.map_append, List.map_cons, List.map_nil, cB]; done)):=h
def abB (h:p:=by first | rfl | (simp only [ak, aB, Nat.reduceEqDiff, reduceIte, aP (show k + 1 < 9223372036854775808 by omega), List.map_append, List.map_cons, List.map_nil, cB]; done)):=h
def ab5 (h:p:=by first | rfl | (simp only [ak, aB, O.kill, A.kill, Nat.reduceEqDiff, reduceIte, Option.map_some, Option.map_none, List.map_cons, List.map_nil, au, hF, bH, gK]; done)):=h
def abV (h:p:=by first | rfl | (simp only [ak, aB, O.kill, A.kill, Nat.reduceEqDiff, reduceIte, Option.map_some, Option.map_none, List.map_cons, List.map_nil, au, bH, gK]; done)):=h
def ach (h:p:=by first | rfl | (simp only [ak, bB, A.kill, aD, aC, Nat.reduceEqDiff, reduceIte, sO, aP (show k + 1 < 9223372036854775808 by omega)]; done)):=h
def OD (h:p:=by first | rfl | (simp only [ak, bB, A.kill, aD, aC, Nat.reduceEqDiff, reduceIte, aP (show k + 1 < 9223372036854775808 by omega)]; done)):=h
def Zo (h:p:=by simp only [exb, simprocAttr, hc0, he, cb, bc, eb, be, ce, ec, Nat.add_left_cancel_iff, Nat.add_eq_left, Nat.left_eq_add, upd_same, List.map_cons, cStr, h12, h02] <;> rfl):=h
def u7 (h:p:=by first | rfl | (simp only [ak, aB, O.kill, A.kill, Option.map_some, Option.map_none, List.map_cons, List.map_nil, Nat.reduceEqDiff, reduceIte] <;> rfl)):=h
def abW (h:p:=by first | (simp only [ak, sD, DID, aD, aC, simprocAttr]; done) | (simp only [ak, sD, DID, aD, aC, simprocAttr]; rfl)):=h
def abv (h:p:=by first | rfl | (simp only [ak, aD, aC, Nat.reduceEqDiff, reduceIte, hset, aP (show k + 1 < 9223372036854775808 by omega)]; done)):=h
def abb (h:p:=by simp only [exb, simprocAttr, BB.tabs, V.tabs, hc0, he, cb, bc, eb, be, ce, ec, Nat.add_left_cancel_iff, Nat.add_eq_left, Nat.left_eq_add, upd_same] <;> rfl):=h
def abZ (h:p:=by first | rfl | (simp only [ak, aB, Nat.reduceEqDiff, reduceIte, hset, aP (show k + 1 < 9223372036854775808 by omega)]; done)):=h
def aaH (h:p:=by simp only [exb, simprocAttr, hc0, he, cb, bc, eb, be, ce, ec, Nat.add_left_cancel_iff, Nat.add_eq_left, Nat.left_eq_add, upd_same, dW] <;> rfl):=h
def abN (h:p:=by first | rfl | (simp only [ak, bB, A.kill, aD, aC, Nat.reduceEqDiff, reduceIte, Nat.add_left_cancel_iff] <;> rfl)):=h
def Bu (h:p:=by simp only [jS, exb, simprocAttr, hc0, he, cb, bc, eb, be, ce, ec, Nat.add_left_cancel_iff, Nat.add_eq_left, Nat.left_eq_add, upd_same] <;> rfl):=h
def abH (h:p:=by first | rfl | (simp only [ak, bB, A.kill, aD, aC, Nat.reduceEqDiff, reduceIte, au, hF, bH, gK]; done)):=h
def ab8 (h:p:=by first | rfl | (simp only [ak, bB, A.kill, aD, aC, Nat.reduceEqDiff, reduceIte, ce, be, cb, bc, eb, ec]; done)):=h
def Ak (h:p:=by simp only [exb, simprocAttr, hc0, he, cb, bc, eb, be, ce, ec, Nat.add_left_cancel_iff, Nat.add_eq_left, Nat.left_eq_add, upd_same] <;> rfl):=h
def abS (h:p:=by first | rfl | (simp only [ak, bB, A.kill, aD, aC, Nat.reduceEqDiff, reduceIte, au, bH, gK]; done)):=h
def Qy (h:p:=by first | rfl | (simp only [ak, bB, A.kill, aD, aC, Nat.reduceEqDiff, reduceIte, List.length_map]; done)):=h
def abR (h:p:=by simp [A.ids, O.ids, ak, au, bH, gK, aP (show q + 1 < 9223372036854775808 by have := (hS c hc).2.1; omega)]):=h
def IQ (h:p:=by simp only [List.length_take, List.length_drop, List.length_append, List.length_map, List.length_cons, List.length_nil]; omega):=h
def RI (h:p:=by first | exact (h4k u z hu hz) | exact ((upd_ne _ _ (fun e => by subst e; rw [hM] at hz; cases hz)).trans (h4k u z hu hz))):=h
def abE (h:p:=by simp [A.ids, ak, au, bH, gK, aP (show q + 1 < 9223372036854775808 by have := (hS c hc).2.1; omega)]):=h
def ab9 (h:p:=by first | rfl | (simp only [ak, aD, aC, Nat.reduceEqDiff, reduceIte, dW, List.map_append]; done)):=h
def tH (h:p:=by first | rfl | (simp only [ak, bB, A.kill, aD, aC, Nat.reduceEqDiff, reduceIte] <;> rfl)):=h
def ZO (h:p:=by first | rfl | (simp only [ak, bB, A.kill, aD, aC, Nat.reduceEqDiff, reduceIte]; done)):=h
def acd (h:p:=by first | rfl | (simp only [ak, aD, aC, Nat.reduceEqDiff, reduceIte, List.length_map]; done)):=h
def Z9 (h:p:=by simp only [exb, simprocAttr, bH, jf, qx, au, aI, List.set_cons_zero, List.set_cons_succ] <;> rfl):=h
def K5 (h:p:=by simp only [jS, exb, simprocAttr, List.length_map, ha, ha1, or_true, Nat.le_refl, and_self, reduceIte] <;> rfl):=h
def Iw (h:p:=by simp only [List.length_take, List.length_drop, List.length_map, List.length_cons, List.length_nil]; omega):=h
def aco (h:p:=by first | rfl | (simp only [ak, aB, Nat.reduceEqDiff, reduceIte, dW, List.map_append]; done)):=h
def abX (h:p:=by simp [A.ids, ak, hc0, he, cb, bc, eb, be, ce, ec, Nat.add_left_cancel_iff, ce, be, cb, bc, eb, ec]):=h
def Hu (h:p:=by intro z hz; obtain ⟨y, -, rfl⟩ := List.mem_map.1 (List.mem_of_mem_take (List.mem_of_mem_drop hz)); rfl):=h
def ab4 (h:p:=by first | rfl | (simp only [ak, aB, Nat.reduceEqDiff, reduceIte, List.length_map]; done)):=h
def ab7 (h:p:=by simp only [Tryz.f84, aU, ay, toT, fin, exb, simprocAttr, pJ, rV, List.map_nil] <;> rfl):=h
def Zx (h:p:=by rw [ex]; exact List.mem_flatMap.2 ⟨y, List.mem_of_getElem? hy, by rw [xQ] at hi; exact hi⟩):=h
def Zt (h:p:=by first | rfl | (simp only [ak, aD, aC, Nat.reduceEqDiff, reduceIte]; done)):=h
def RD (h:p:=by simp only [exb, simprocAttr, tabs, V.tabs, hlt, bA hx, aW, aX, bf] <;> rfl):=h
def abY (h:p:=by simp only [jS, exb, simprocAttr, List.length_map, ha, ha1, true_or, and_self, reduceIte] <;> rfl):=h
def ZW (h:p:=by rw [ex]; exact List.mem_flatMap.2 ⟨y, List.mem_of_mem_drop (List.mem_of_mem_take hy1), hy2⟩):=h
def abK (h:p:=by simp only [exb, simprocAttr, bH, gK, kG, au, hd, hge, bA ho, aI] <;> rfl):=h
def aa3 (h:p:=by simp only [List.length_append, List.length_map, List.length_cons, List.length_nil]; omega):=h
def ZM (h:p:=by simp only [exb, simprocAttr, hM, hjb, hjb', hj, hm, JE, Nat.add_left_cancel_iff] <;> rfl):=h
def abU (h:p:=by simp only [Tryz.f24, aU, ay, toT, fin, exb, simprocAttr, hall, pJ, List.map_nil]):=h
def ace (h:p:=by simp only [Tryz.f48, aU, ay, toT, fin, exb, simprocAttr, hst, pJ, List.map_nil]):=h
def abL (h:p:=by simp only [exb, simprocAttr, upd_same, hjb, hbj, hf2, vK, hw11, hw01, hwa, hwb] <;> rfl):=h
def Xb (h:p:=by simp only [exb, simprocAttr, List.length_map, hlt, bA hy, cExpr, aX] <;> rfl):=h
def P7 (h:p:=by simp only [exb, simprocAttr, tabs, V.tabs, hlt, bA hx, cExpr, aX] <;> rfl):=h
def Zk (h:p:=by simp only [exb, simprocAttr, bH, jf, qx, au, aI, bf] <;> rfl):=h
def abJ (h:p:=by simp only [Tryz.f84, aU, ay, toT, fin, exb, simprocAttr, pJ, rV] <;> rfl):=h
def abz (h:p:=by simp only [exb, simprocAttr, bH, gK, kG, au, bA hy, aI] <;> rfl):=h
def Zu (h:p:=by simp only [Tryz.f7, aU, ay, toT, fin, exb, simprocAttr, y7, List.map_nil]):=h
def abI (h:p:=by first | rfl | (simp only [ak, aB, Nat.reduceEqDiff, reduceIte]; done)):=h
def Ou (h:p:=by simp only [Tryz.f130, aU, ay, toT, fin, exb, simprocAttr, h1, h3, h4] <;> rfl):=h
def Sq (h:p:=by intro z hz; obtain ⟨y, -, rfl⟩ := List.mem_map.1 (List.mem_of_mem_take hz); rfl):=h
def ab3 (h:p:=by simp [A.ids, ak, hc0, he, cb, bc, eb, be, ce, ec, Nat.add_left_cancel_iff]):=h
def abQ (h:p:=by simp only [exb, simprocAttr, hM, hjb, hjb', hj, Nat.add_left_cancel_iff] <;> rfl):=h
def abo (h:p:=by simp only [Tryz.f130, aU, ay, toT, fin, exb, simprocAttr, h1, h3] <;> rfl):=h
def Y6 (h:p:=by simp only [Op.operands, List.mem_toArray, List.mem_map]; exact ⟨p, hp, rfl⟩):=h
def aci (h:p:=by simp only [Tryz.f71, aU, ay, toT, fin, exb, simprocAttr, h1, h2] <;> rfl):=h
def aaG (h:p:=by simp only [exb, simprocAttr, tabs, V.tabs, bH, wQ, yU, au] <;> rfl):=h
def KY (h:p:=by repeat (first | exact Rt | refine abw ?_ | refine Xy (hfar _) ?_)):=h
def aaA (h:p:=by simp only [Array.length_toList, List.length_cons, List.length_nil]; omega):=h
def Yl (h:p:=by simp only [exb, simprocAttr, bH, gK, kG, au, hkn', hse'] <;> rfl):=h
def Y3 (h:p:=by simp only [Tryz.f48, aU, ay, toT, fin, exb, simprocAttr, pJ] <;> rfl):=h
def ab2 (h:p:=by simp only [jS, exb, simprocAttr, h23, hB3, Nat.add_left_cancel_iff] <;> rfl):=h
def Qv (h:p:=by simp only [xJ, asL, asC, ak, eb, if_false, if_true, eq_self] <;> rfl):=h
def Zm (h:p:=by simp only [jS, exb, simprocAttr, List.map_cons, cExpr, aX] <;> rfl):=h
def QM (h:p:=by rw [D8]; have := h.chain (k := 0) (by simp); simpa using this):=h
def acn (h:p:=by simp only [exb, simprocAttr, iR, zeroMethod, aI, V.tabs] <;> rfl):=h
def Xo (h:p:=by first | rfl | simp only [ak, sD, DID, Nat.reduceEqDiff, reduceIte]):=h
def Qw (h:p:=by simp only [exb, simprocAttr, List.length_map, hlt, bA hx, cB] <;> rfl):=h
def Yj (h:p:=by intro j hj; rw [List.mem_singleton] at hj; subst hj; exact ⟨_, _, rfl⟩):=h
def Y4 (h:p:=by simp only [exb, simprocAttr, OO.tabs, V.tabs, upd_same, hjb, hbj] <;> rfl):=h
def Oc (h:p:=by simp only [List.length_take, List.length_drop, List.length_map]; omega):=h
def xq (h:p:=by simp only [List.length_map, List.length_cons, List.length_nil]; omega):=h
def acp (h:p:=by first | rfl | (simp only [exb, simprocAttr, bH, gK, kG]; rfl)):=h
def Q7 (h:p:=by simp only [exb, simprocAttr, hjb, hjb', Nat.add_left_cancel_iff] <;> rfl):=h
def acf (h:p:=by simp only [Tryz.f82, aU, ay, toT, fin, exb, simprocAttr, hall]):=h
def abA (h:p:=by simp only [exb, simprocAttr, h22, hB2, Nat.add_left_cancel_iff] <;> rfl):=h
def aaL (h:p:=by simp only [Tryz.f48, aU, ay, toT, fin, exb, simprocAttr, pJ]):=h
def abu (h:p:=by simp only [Tryz.f159, aU, ay, toT, fin, exb, simprocAttr] <;> rfl):=h
def acj (h:p:=by simp only [Tryz.f160, aU, ay, toT, fin, exb, simprocAttr] <;> rfl):=h
def abM (h:p:=by simp only [Tryz.f129, aU, ay, toT, fin, exb, simprocAttr] <;> rfl):=h
def QH (h:p:=by first | (simp only [ak, sD, DID, dfs, simprocAttr]; done) | rfl):=h
def aa1 (h:p:=by simp only [exb, simprocAttr, tabs, V.tabs, bH, wQ, yU] <;> rfl):=h
def TI (h:p:=by simp only [exb, simprocAttr, e22, e23, hB3, hB2, List.map_nil] <;> rfl):=h
def SB (h:p:=by simp only [ak, cb, bc, eb, be, ce, ec, if_false]; exact hfar _):=h
def Vd (h:p:=by simp only [Tryz.f81, aU, ay, toT, fin, exb, simprocAttr] <;> rfl):=h
def aaf (h:p:=by rw [ex]; exact List.mem_flatMap.2 ⟨y, List.mem_of_getElem? hy, hq⟩):=h
def yS (h:p:=by simp only [exb, simprocAttr, eP, fF, DID, gK, au] <;> rfl):=h
def aal (h:p:=by simp only [exb, simprocAttr, upd_same, hjb, hbj, hfd, V.tabs] <;> rfl):=h
def YZ (h:p:=by simp only [exb, simprocAttr, bH, gK, kG, au, hd] <;> rfl):=h
def Ud (h:p:=by simp only [exb, simprocAttr, iR, aI, zeroMethod] <;> rfl):=h
def Zy (h:p:=by simp only [Tryz.f129, aU, ay, toT, fin, exb, simprocAttr]):=h
def Wm (h:p:=by simp only [exb, simprocAttr, bA hx, bA hy, aJ] <;> rfl):=h
def Tc (h:p:=by rw [Nat.zero_add]; exact growslice_fits h0 (by rw [hb]; omega)):=h
def aaN (h:p:=by simp only [Tryz.f46, aU, ay, toT, fin, exb, simprocAttr]):=h
def vM (h:p:=by simp only [exb, simprocAttr, bH, gK, kG, au] <;> rfl):=h
def abr (h:p:=by simp only [exb, simprocAttr, bH, uL, rO, au] <;> rfl):=h
def abk (h:p:=by simp only [exb, simprocAttr, bH, jf, qx, au] <;> rfl):=h
def ZU (h:p:=by simp only [Tryz.f5, aU, ay, toT, fin, exb, simprocAttr]):=h
def Wd (h:p:=by simp only [exb, simprocAttr, he2, he, hne, decide_false] <;> rfl):=h
def Y7 (h:p:=by simp only [Tryz.f6, aU, ay, toT, fin, exb, simprocAttr]):=h
def abl (h:p:=by simp only [jS, exb, simprocAttr, List.map_cons, cExpr] <;> rfl):=h
def aaJ (h:p:=by simp only [exb, simprocAttr, X.tabs, V.tabs, hc1, hc2] <;> rfl):=h
def Vx (h:p:=by have hb := hbytes; simp only [Nat.zero_add] at hb; omega):=h
def Zd (h:p:=by simp [A.ids, ak, h22, h23, Nat.add_left_cancel_iff]):=h
def Uv (h:p:=by have := hP.main.2.2; simp only [List.length_nil]; omega):=h
def rH (h:p:=by simp only [jS, exb, simprocAttr, C7.tabs, V.tabs] <;> rfl):=h
def FE (h:p:=by simp only [exb, simprocAttr, List.length_map, hd] <;> rfl):=h
def TW (h:p:=by simp only [exb, simprocAttr, bA hx, aI] <;> rfl):=h
def Tn (h:p:=by simp only [exb, simprocAttr, bH, gK, kG] <;> rfl):=h
def aaq (h:p:=by simp [A.ids, O.ids, ak, au, hF, bH, gK]):=h
def ZL (h:p:=by have := (hS kc (List.mem_of_getElem? hkc)).2.1; omega):=h
def Mt (h:p:=by simp only [exb, simprocAttr, bH, uL, rO] <;> rfl):=h
def Ut (h:p:=by simp only [exb, simprocAttr, h22, h23, hB3, h2'] <;> rfl):=h
def Ta (h:p:=by rw [hM3]; exact (upd_ne _ _ hu).trans (hk2 u z hu hz)):=h
def aac (h:p:=by simp only [exb, simprocAttr, h32, h33, hB2, hB3] <;> rfl):=h
def Zg (h:p:=by simp only [jS, exb, simprocAttr, h22, h23, hB3] <;> rfl):=h
def JQ (h:p:=by simp only [exb, simprocAttr, bA hx, au] <;> rfl):=h
def PK (h:p:=by rw [upd_ne _ _ (fun e => cast (hjb _) e)]; exact hj):=h
def JX (h:p:=by simp only [exb, simprocAttr, bA hx, aJ] <;> rfl):=h
def aah (h:p:=by have := (hS kc (List.mem_of_getElem? hkc)).1; omega):=h
def SE (h:p:=by simp only [exb, simprocAttr, iR, aI] <;> rfl):=h
def O4 (h:p:=by simp only [exb, simprocAttr, bA hx, cStr] <;> rfl):=h
def Nu (h:p:=by simp only [exb, simprocAttr, hcp, h1, h3, h4] <;> rfl):=h
def Wp (h:p:=by simp only [exb, simprocAttr, OO.tabs, V.tabs] <;> rfl):=h
def V7 (h:p:=by simp only [exb, simprocAttr, BB.tabs, V.tabs] <;> rfl):=h
def nR (h:p:=by first | rfl | (simp only [exb, simprocAttr]; rfl)):=h
def TM (h:p:=by simp only [exb, simprocAttr, wT, au] <;> rfl):=h
def aaB (h:p:=by simp [A.ids, O.ids, ak, au, bH, gK]):=h
def BQ (h:p:=by simp only [exb, simprocAttr, ai, bi, an, bn] <;> rfl):=h
def Vb (h:p:=by simp only [exb, simprocAttr, h1, h2, h3, h4] <;> rfl):=h
def JW (h:p:=by simp only [exb, simprocAttr, hM 2, hq, hqb] <;> rfl):=h
def aaT (h:p:=by simp only [exb, simprocAttr, upd_same, hjb, hbj]):=h
def OT (h:p:=by simp only [exb, simprocAttr, h22, h23, hB3] <;> rfl):=h
def VX (h:p:=by simp only [exb, simprocAttr, Bool.not_true] <;> rfl):=h
def Kn (h:p:=by simp only [ak, cb, ce, if_false]; exact hc0):=h
def Vy (h:p:=by simp only [exb, simprocAttr, hsat, sD, DID] <;> rfl):=h
def UO (h:p:=by simp only [exb, simprocAttr, hmat, sD, DID] <;> rfl):=h
def YX (h:p:=by simp only [jS, exb, simprocAttr, h22, hB2] <;> rfl):=h
def Y1 (h:p:=by simp only [jS, exb, simprocAttr, h23, hB3] <;> rfl):=h
def kF (h:p:=by simp only [exb, simprocAttr, tabs, V.tabs] <;> rfl):=h
def Wv (h:p:=by simp only [exb, simprocAttr, hi, hi2, ckC] <;> rfl):=h
def UM (h:p:=by simp only [exb, simprocAttr, List.map_nil] <;> rfl):=h
def UN (h:p:=by simp only [exb, simprocAttr, cStr, ha, hb] <;> rfl):=h
def ZA (h:p:=by simp [A.ids, ak, au, hF, bH, gK]):=h
def Ni (h:p:=by simp only [exb, simprocAttr, hcp, h1, h3] <;> rfl):=h
def ND (h:p:=by simp only [exb, simprocAttr, hcp, h1, h2] <;> rfl):=h
def Wh (h:p:=by simp only [exb, simprocAttr, h1, h2, h3] <;> rfl):=h
def Y2 (h:p:=by simp only [exb, simprocAttr, h1, h3, h4] <;> rfl):=h
def Pj (h:p:=by simp only [exb, simprocAttr, hcp, cStr] <;> rfl):=h
def SS (h:p:=by simp only [jS, exb, simprocAttr, jq] <;> rfl):=h
def VJ (h:p:=by simp only [exb, simprocAttr, h22, hB2] <;> rfl):=h
def PX (h:p:=by simp only [exb, simprocAttr, aI] <;> rfl):=h
def Y8 (h:p:=by simp [A.ids, ak, au, bH, gK]):=h
def TG (h:p:=by simp only [exb, simprocAttr, hi, hi2] <;> rfl):=h
def tY (h:p:=by simp only [exb, simprocAttr, sD, DID] <;> rfl):=h
def Vh (h:p:=by simp [execOp, hop, h1, Instr.extract, hv]):=h
def CV (h:p:=by simp only [exb, simprocAttr, au] <;> rfl):=h
def Cm (h:p:=by simp only [exb, simprocAttr, h1, h2] <;> rfl):=h
def Za (h:p:=by simp only [exb, simprocAttr, h1, h3] <;> rfl):=h
def Us (h:p:=by simp only [exb, simprocAttr, ai, bi] <;> rfl):=h
def FD (h:p:=by simp only [exb, simprocAttr, V.tabs] <;> rfl):=h
def Yo (h:p:=by rw [gT hvl, gT hh.1]):=h
def jJ (h:p:=by simp only [exb, simprocAttr, bI] <;> rfl):=h
def Yt (h:p:=by simp only [exb, simprocAttr, dW]; done):=h
def yT (h:p:=by simp only [exb, simprocAttr, jq] <;> rfl):=h
def VN (h:p:=by simp only [exb, simprocAttr, cStr] <;> rfl):=h
def UW (h:p:=by simp only [exb, simprocAttr, dW] <;> rfl):=h
def Pb (h:p:=by simp only [exb, simprocAttr, hsat] <;> rfl):=h
def WJ (h:p:=by simp only [exb, simprocAttr, hmat] <;> rfl):=h
def CP (h:p:=by simp only [Array.length_toList]; omega):=h
def Vv (h:p:=by simp only [exb, simprocAttr, hl'] <;> rfl):=h
def U0 (h:p:=by rw [← hn, Nat.zero_add]; exact h.small):=h
def WH (h:p:=by rw [← hn, Nat.zero_add]; exact h.bound):=h
def gB (h:p:=by simp only [exb, simprocAttr, hcp] <;> rfl):=h
def YT (h:p:=by simp only [exb, simprocAttr, hat] <;> rfl):=h
def Ct (h:p:=by simp only [exb, simprocAttr, ckC] <;> rfl):=h
def J4 (h:p:=by simp only [exb, simprocAttr, DID] <;> rfl):=h
def fA (h:p:=by simp only [jS, exb, simprocAttr] <;> rfl):=h
def Ug (h:p:=by simp only [exb, simprocAttr, ht] <;> rfl):=h
def VT (h:p:=by simp only [exb, simprocAttr, hs] <;> rfl):=h
def zT (h:p:=by simp only [exb, simprocAttr, hM] <;> rfl):=h
def JF (h:p:=by simp only [exb, simprocAttr, h1] <;> rfl):=h
def SA (h:p:=by simp only [exb, simprocAttr, sO] <;> rfl):=h
def WS (h:p:=by simp [A.ids, ak, hj, hbj, hjb]):=h
def SL (h:p:=by rw [hmno (by rw [he]; rfl)]; decide):=h
def Ai (h:p:=by simp only [List.length_map]; omega):=h
def aat (h:p:=by rw [hf2 o ho hge]; simpa using hal):=h
def fE (h:p:=by simp only [exb, simprocAttr]; done):=h
def dz (h:p:=by simp only [exb, simprocAttr] <;> rfl):=h
def Tm (h:p:=by simp [A.ids, ak, sO, qK]):=h
def Vp (h:p:=by simp [A.ids, ak, h22, h23]):=h
def Kq (h:p:=by have := BS hx; omega):=h
def Km (h:p:=by rw [hs.op]; simp [Op.operands]):=h
def Kr (h:p:=by rw [List.length_set]; exact hl):=h
def Ah (h:p:=by rw [List.length_take]; omega):=h
def N7 (h:p:=by rw [List.length_drop]; omega):=h
def Ku (h:p:=by rw [hzc]; simpa using h.zlen):=h
def F8 (h:p:=by simp [A.ids, O.ids, ak]):=h
def Vq (h:p:=by rw [hy, Nat.add_mul]; omega):=h
def TK (h:p:=by simpa using Nat.not_lt.1 hi):=h
def JK (h:p:=by rw [List.length_map]; omega):=h
def Mv (h:p:=by unfold F3; rw [hbf]; rfl):=h
def Po (h:p:=by simpa [upd, e] using ho):=h
def NI (h:p:=by simp [execOp, hop, hv]):=h
def yC (h:p:=by intro j hj; simp at hj):=h
def Bd (h:p:=by simp [A.ids, ak]):=h
def Gm (h:p:=by simp [O.ids, O.kill]):=h
def Nl (h:p:=by unfold maxLen; omega):=h
def Nt (h:p:=by rw [ex]; exact hi'):=h
def eT (h:p:=by simp [Op.operands]):=h
def Kt (h:p:=by simp [hsz]; omega):=h
def Qg (h:p:=by rw [ex]; exact hi):=h
def Zv (h:p:=by rw [ex]; exact hq):=h
def Dw (h:p:=by simpa using hsz):=h
def oD (h:p:=by simpa using hx):=h
def yF (h:p:=by simpa using hl):=h
def DJ (h:p:=by simpa using h1):=h
def Gn (h:p:=by simpa using he):=h
def Jo (h:p:=by simpa using hb):=h
def aK (h:p:=by decide +kernel):=h
structure Zh (q:Prop):Prop where
 o:q
def zm1 (h:q) (g:Zh q → p:=by intro zh;refine W.bR ah 0 (by decide) ?_;exact zh.o):=g ⟨h⟩
def zm2 (h:q) (g:Zh q → p:=by intro zh;(repeat (first | refine WI.seq ?_ | refine WI.block ?_ | refine WI.skip ?_ | refine WI.exit ?_ | refine WI.region ah 0 (by decide) (by kernel_rfl) (aR vM) ?_));exact zh.o):=g ⟨h⟩
def zm3 (h:q) (g:Zh q → p:=by intro zh;(repeat (first | refine W.q ?_ | refine W.region ah b (by decide) xr0 ?_));exact zh.o):=g ⟨h⟩
def zm4 (h:q) (g:Zh q → p:=by intro zh;(repeat (first | refine W.seq ?_ | refine W.block ?_));exact zh.o):=g ⟨h⟩
def zm5 (h:q) (g:Zh q → p:=by intro zh;refine W.oK ah 0 bC (by kernel_rfl) (by decide) ?_;exact zh.o):=g ⟨h⟩
def zm6 (h:q) (g:Zh q → p:=by intro zh;refine W.go ?_;refine W.rt ?_;exact zh.o):=g ⟨h⟩
def zm7 (h:q) (g:Zh q → p:=by intro zh;refine av rfl rfl rfl rfl rfl (by simp) cw1 (Bv _) ?_;refine xe0 ?_;exact zh.o):=g ⟨h⟩
def zm8 (h:q) (g:Zh q → p:=by intro zh;refine W.bR ah b (by decide) ?_;exact zh.o):=g ⟨h⟩
def zm9 (h:q) (g:Zh q → p:=by intro zh;refine fJ rfl rfl rfl rfl rfl (by simp) (bM (nM Kn Qv) (bM fO (bM fO gJ))) (by rfl) (by rfl) hfi1 ?_;exact zh.o):=g ⟨h⟩
def qy (h:q) (g:Zh q → p:=by intro zh;(repeat (first | refine W.q ?_ | refine W.g ?_ kF));exact zh.o):=g ⟨h⟩
def M8 (h:q) (g:Zh q → p:=by intro zh;(repeat (first | refine WI.seq ?_ | refine WI.block ?_ | refine WI.skip ?_ | refine WI.exit ?_ | refine WI.region ah 0 (by decide) (by kernel_rfl) (aR abk) ?_));exact zh.o):=g ⟨h⟩
def QV (h:q) (g:Zh q → p:=by intro zh;refine av rfl rfl rfl rfl rfl (by simp) cw2 (hca _) ?_;refine aj 3 gB ?_;refine av rfl rfl rfl rfl rfl (by simp) cw2 (hcb _) ?_;exact zh.o):=g ⟨h⟩
def QT (h:q) (g:Zh q → p:=by intro zh;refine aj 3 Ak ?_;refine fJ rfl rfl rfl rfl rfl (by simp) (bM (nM Kn Qv) (bM fO gJ)) (by rfl) (by rfl) hkn1 ?_;exact zh.o):=g ⟨h⟩
def RY (h:q) (g:Zh q → p:=by intro zh;refine aN 11 aK ⟨_, fA, ?_⟩;refine aN 12 aK ⟨_, fA, ?_⟩;refine bY [13] aK (by decide) ?_;exact zh.o):=g ⟨h⟩
def LQ (h:q) (g:Zh q → p:=by intro zh;refine WI.oK ah 0 bC (by kernel_rfl) (by decide) (by kernel_rfl) ?_;refine aj 3 vM ?_;refine av rfl rfl rfl rfl rfl (by simp) cw1 (Dp kc.fields aah _) ?_;refine aj 0 Tn ?_;refine cK ah 50 rfl rfl rfl rfl rfl rfl rfl rfl acp rfl rfl rfl rfl hn50 (by simp [cStr]) zq6 (by decide) ?_;refine aA Tn ?_;exact zh.o):=g ⟨h⟩
def mU (h:q) (g:Zh q → p:=by intro zh;refine xe0 ?_;refine W.go ?_;exact zh.o):=g ⟨h⟩
def Q8 (h:q) (g:Zh q → p:=by intro zh;(repeat (first | refine W.q ?_ | refine W.region ah b (by decide) (aR OT) ?_));exact zh.o):=g ⟨h⟩
def Jl (h:q) (g:Zh q → p:=by intro zh;refine fJ rfl rfl rfl rfl rfl (by simp) (bM (nM rfl rfl) (bM fO gJ)) (by rfl) (by rfl) hkn ?_;exact zh.o):=g ⟨h⟩
def Ca (h:q) (g:Zh q → p:=by intro zh;refine aN 11 aK ⟨_, fA, ?_⟩;refine kI aK ?_;exact zh.o):=g ⟨h⟩
def Mg (h:q) (g:Zh q → p:=by intro zh;(repeat (first | refine W.q ?_ | refine W.g ?_ YT));exact zh.o):=g ⟨h⟩
def En (h:q) (g:Zh q → p:=by intro zh;refine aN 14 aK ⟨_, fA, ?_⟩;refine kI aK ?_;exact zh.o):=g ⟨h⟩
def KE (h:q) (g:Zh q → p:=by intro zh;(repeat (first | refine W.q ?_ | refine W.g ?_ gB));exact zh.o):=g ⟨h⟩
def yZ (h:q) (g:Zh q → p:=by intro zh;refine W.oK ah b bC (by kernel_rfl) (by decide) ?_;exact zh.o):=g ⟨h⟩
def GR (h:q) (g:Zh q → p:=by intro zh;refine W.cf rfl ?_;refine W.go ?_;exact zh.o):=g ⟨h⟩
def Ga (h:q) (g:Zh q → p:=by intro zh;(repeat (first | refine W.q ?_ | refine W.g ?_ FD));exact zh.o):=g ⟨h⟩
def aaS (h:q) (g:Zh q → p:=by intro zh;(repeat (first | refine W.q ?_ | refine W.g ?_ tY));exact zh.o):=g ⟨h⟩
def abg (h:q) (g:Zh q → p:=by intro zh;refine aj 7 aaJ ?_;refine bW (D := []) rfl rfl rfl rfl rfl (fun j hj => by simp at hj) (by simp) cw3 (Nn p inn ret env hlen9 hchk tr mps htr _ rfl (fun d => by simp only [ak, yj]; repeat (rw [if_neg (by omega)]))) ?_;exact zh.o):=g ⟨h⟩
def YJ (h:q) (g:Zh q → p:=by intro zh;refine W.bl ?_;refine W.bR OO.ah b (by decide) ?_;refine aj 3 Y4 ?_;refine bW (D := []) rfl rfl rfl rfl rfl (fun j hj => by simp at hj) (by simp) cw2 (hC _ (far40 _ _) (at40 _ _)) ?_;exact zh.o):=g ⟨h⟩
def X3 (h:q) (g:Zh q → p:=by intro zh;refine H7 rfl rfl rfl rfl rfl (bg dG (EP _)) (hk x (List.mem_of_getElem? hx) _) ?_;refine xe0 ?_;exact zh.o):=g ⟨h⟩
def YP (h:q) (g:Zh q → p:=by intro zh;refine ⟨ts ++ [t], ⟨by simp only [List.length_append, List.length_singleton]; omega, by rw [List.length_append, List.length_singleton, happ]; rfl⟩, by simp only [List.length_append, List.length_singleton]; omega, ?_⟩;exact zh.o):=g ⟨h⟩
def aar (h:q) (g:Zh q → p:=by intro zh;refine aj 24 BQ ?_;refine av rfl rfl rfl rfl rfl (by simp) cw3 (hfa _) ?_;refine aj 5 BQ ?_;refine av rfl rfl rfl rfl rfl (by simp) cw3 (hfb _) ?_;exact zh.o):=g ⟨h⟩
def abe (h:q) (g:Zh q → p:=by intro zh;refine aj 10 gB ?_;refine av rfl rfl rfl rfl rfl (by simp) (bg dG (bg dG (bg dG (bg dG (bg (o8 rfl) cw1))))) (hB2 _) ?_;exact zh.o):=g ⟨h⟩
def R8 (h:q) (g:Zh q → p:=by intro zh;(repeat (first | refine W.q ?_ | refine W.region ah 500 (by decide) xr0 ?_));exact zh.o):=g ⟨h⟩
def Yh (h:q) (g:Zh q → p:=by intro zh;refine aj 9 gB ?_;refine av rfl rfl rfl rfl rfl (by simp) (bg dG (bg dG (bg dG (bg dG (bg (o8 rfl) cw1))))) (hB1 _) ?_;exact zh.o):=g ⟨h⟩
def O7 (h:q) (g:Zh q → p:=by intro zh;refine av rfl rfl rfl rfl rfl (by simp) cw2 (hcl _) ?_;exact zh.o):=g ⟨h⟩
def Ze (h:q) (g:Zh q → p:=by intro zh;refine aj 6 gB ?_;refine av rfl rfl rfl rfl rfl (by simp) (bg dG (bg dG (bg dG (bg dG (bg (o8 rfl) cw1))))) (hR _) ?_;exact zh.o):=g ⟨h⟩
def Yk (h:q) (g:Zh q → p:=by intro zh;refine aj 5 aal ?_;refine Fq ah (ents := gy L1) rfl (.inl rfl) rfl rfl aaT rfl rfl (by rfl) rfl hfd ?_;refine xe0 ?_;refine W.bl ?_;exact zh.o):=g ⟨h⟩
def YK (h:q) (g:Zh q → p:=by intro zh;refine aj 3 tY ?_;refine fJ rfl rfl rfl rfl rfl (by simp) (bM (nM rfl rfl) (bM fO gJ)) (by rfl) (by rfl) hkt ?_;exact zh.o):=g ⟨h⟩
def Jc (h:q) (g:Zh q → p:=by intro zh;refine bY [10] aK (by decide) ?_;exact zh.o):=g ⟨h⟩
def Yp (h:q) (g:Zh q → p:=by intro zh;(repeat (first | refine WI.seq ?_ | refine WI.block ?_ | refine WI.skip ?_ | refine WI.exit ?_ | refine WI.region ah 0 (by decide) (by kernel_rfl) (aR abr) ?_));exact zh.o):=g ⟨h⟩
def abh (h:q) (g:Zh q → p:=by intro zh;(repeat (first | refine WI.seq ?_ | refine WI.block ?_ | refine WI.skip ?_ | refine WI.exit ?_ | refine WI.region ah 0 (by decide) (by kernel_rfl) (aR Yl) ?_));exact zh.o):=g ⟨h⟩
def Y0 (h:q) (g:Zh q → p:=by intro zh;(repeat (first | refine WI.seq ?_ | refine WI.block ?_ | refine WI.skip ?_ | refine WI.exit ?_ | refine WI.region ah 0 (by decide) (by kernel_rfl) (aR aaG) ?_));exact zh.o):=g ⟨h⟩
def RZ (h:q) (g:Zh q → p:=by intro zh;refine W.ret ⟨.inr rfl, .inr ⟨b, 1002, rfl, rfl, rfl, ?_⟩⟩;exact zh.o):=g ⟨h⟩
def Rn (h:q) (g:Zh q → p:=by intro zh;refine W.tK (base := 0) (ch := fU) ah 4 (by decide) rfl ?_;exact zh.o):=g ⟨h⟩
def PY (h:q) (g:Zh q → p:=by intro zh;(repeat (first | refine W.q ?_ | refine W.region ah b (by decide) (aR zT) ?_));exact zh.o):=g ⟨h⟩
def OJ (h:q) (g:Zh q → p:=by intro zh;(repeat (first | refine W.q ?_ | refine W.g ?_ CV));exact zh.o):=g ⟨h⟩
def Yn (h:q) (g:Zh q → p:=by intro zh;(repeat (first | refine W.q ?_ | refine W.g ?_ jJ));exact zh.o):=g ⟨h⟩
def XY (h:q) (g:Zh q → p:=by intro zh;(repeat (first | refine W.q ?_ | refine W.region ah b (by decide) (aR VJ) ?_));exact zh.o):=g ⟨h⟩
def Sb (h:q) (g:Zh q → p:=by intro zh;refine av rfl rfl rfl rfl rfl (by simp) cw2 (hkn _) ?_;exact zh.o):=g ⟨h⟩
def ZP (h:q) (g:Zh q → p:=by intro zh;refine aj 0 tY ?_;refine av rfl rfl rfl rfl rfl (by simp) cw1 (Bv _) ?_;refine aA tY ?_;exact zh.o):=g ⟨h⟩
def Je (h:q) (g:Zh q → p:=by intro zh;refine ⟨k + 1, hlt, by omega, ?_⟩;exact zh.o):=g ⟨h⟩
def LZ (h:q) (g:Zh q → p:=by intro zh;refine bY [6] aK (by decide) ?_;exact zh.o):=g ⟨h⟩
def Rj (h:q) (g:Zh q → p:=by intro zh;refine WI.bR ah 0 (by decide) (by kernel_rfl) ?_;exact zh.o):=g ⟨h⟩
def Xd (h:q) (g:Zh q → p:=by intro zh;refine av rfl rfl rfl rfl rfl (by simp) (bg Jh cw1) (h2 _) ?_;exact zh.o):=g ⟨h⟩
def aav (h:q) (g:Zh q → p:=by intro zh;refine aj 9 Ct ?_;refine av rfl rfl rfl rfl rfl (by simp) cw3 (hmm _) ?_;refine aA acn ?_;exact zh.o):=g ⟨h⟩
def aa8 (h:q) (g:Zh q → p:=by intro zh;refine W.ret ⟨by rfl, .inr rfl, ?_⟩;exact zh.o):=g ⟨h⟩
def Z5 (h:q) (g:Zh q → p:=by intro zh;refine aj 6 Ct ?_;refine av rfl rfl rfl rfl rfl (by simp) cw2 (hpt _) ?_;refine xe0 ?_;exact zh.o):=g ⟨h⟩
def Yz (h:q) (g:Zh q → p:=by intro zh;refine av rfl rfl rfl rfl rfl (by simp) cw2 (find_ok cs mn n hlen _) ?_;refine aA TM ?_;refine W.go ?_;exact zh.o):=g ⟨h⟩
def Sl (h:q) (g:Zh q → p:=by intro zh;refine aj 9 Cm ?_;refine av rfl rfl rfl rfl rfl (by simp) cw2 (hk _) ?_;refine aA Cm ?_;exact zh.o):=g ⟨h⟩
def Q9 (h:q) (g:Zh q → p:=by intro zh;refine aj 3 abQ ?_;refine bW (D := []) rfl rfl rfl rfl rfl (fun j hj => by simp at hj) (by simp) cw2 con ?_;exact zh.o):=g ⟨h⟩
def Xx (h:q) (g:Zh q → p:=by intro zh;(repeat (first | refine W.q ?_ | refine W.g ?_ PX));exact zh.o):=g ⟨h⟩
def Yy (h:q) (g:Zh q → p:=by intro zh;(repeat (first | refine W.q ?_ | refine W.g ?_ yS));exact zh.o):=g ⟨h⟩
def YE (h:q) (g:Zh q → p:=by intro zh;(repeat (first | refine W.q ?_ | refine W.g ?_ VN));exact zh.o):=g ⟨h⟩
def jA (h:q) (g:Zh q → p:=by intro zh;refine W.ct rfl ?_;exact zh.o):=g ⟨h⟩
def aaI (h:q) (g:Zh q → p:=by intro zh;refine W.bl ?_;refine W.bR BB.ah b (by decide) ?_;refine aj 3 abb ?_;exact zh.o):=g ⟨h⟩
def ZR (h:q) (g:Zh q → p:=by intro zh;(repeat (first | refine W.q ?_ | refine W.region ah b (by decide) (aR Ut) ?_));refine ⟨rfl, ?_⟩;exact zh.o):=g ⟨h⟩
def Z0 (h:q) (g:Zh q → p:=by intro zh;refine W.tK (base := 0) (ch := fU) ah 2 (by decide) rfl ?_;exact zh.o):=g ⟨h⟩
def aa0 (h:q) (g:Zh q → p:=by intro zh;refine aj 5 gB ?_;refine av rfl rfl rfl rfl rfl (by simp) cw3 (hbe _) ?_;exact zh.o):=g ⟨h⟩
def Nf (h:q) (g:Zh q → p:=by intro zh;refine aj 5 gB ?_;refine av rfl rfl rfl rfl rfl (by simp) cw2 (hkt _) ?_;exact zh.o):=g ⟨h⟩
def Xu (h:q) (g:Zh q → p:=by intro zh;refine W.yh (base := b) (ch := fU) ah 16 [100, 1000000] bC (by kernel_rfl) (by decide) rfl ?_;exact zh.o):=g ⟨h⟩
def abj (h:q) (g:Zh q → p:=by intro zh;refine WI.seq ?_;refine WI.oK ah 0 bC (by kernel_rfl) (by decide) (by kernel_rfl) ?_;exact zh.o):=g ⟨h⟩
def X7 (h:q) (g:Zh q → p:=by intro zh;refine W.yh (base := b) (ch := fU) ah 18 [61, 1000000] bC (by kernel_rfl) (by decide) rfl ?_;exact zh.o):=g ⟨h⟩
def aaO (h:q) (g:Zh q → p:=by intro zh;refine xs0 2 ?_;refine av rfl rfl rfl rfl rfl (by simp) cw2 (find_ok cs mn nm (by omega) _) ?_;exact zh.o):=g ⟨h⟩
def Zq (h:q) (g:Zh q → p:=by intro zh;refine W.exit ?_;refine W.bl ?_;exact zh.o):=g ⟨h⟩
def aaF (h:q) (g:Zh q → p:=by intro zh;refine av rfl rfl rfl rfl rfl (by simp) cw3 (hme _) ?_;exact zh.o):=g ⟨h⟩
def aa9 (h:q) (g:Zh q → p:=by intro zh;refine aN 9 aK ⟨_, abl, ?_⟩;refine aN 10 aK ⟨_, fA, ?_⟩;exact zh.o):=g ⟨h⟩
def Z8 (h:q) (g:Zh q → p:=by intro zh;refine av rfl rfl rfl rfl rfl (by simp) cw1 (h1 _) ?_;exact zh.o):=g ⟨h⟩
def acr (h:q) (g:Zh q → p:=by intro zh;refine xs0 2 ?_;refine av rfl rfl rfl rfl rfl (by simp) cw2 (hhx _) ?_;refine xe0 ?_;exact zh.o):=g ⟨h⟩
def acy (h:q) (g:Zh q → p:=by intro zh;refine aj 7 Ct ?_;refine av rfl rfl rfl rfl rfl (by simp) cw2 (hf _) ?_;exact zh.o):=g ⟨h⟩
def acw (h:q) (g:Zh q → p:=by intro zh;refine xs0 7 ?_;refine av rfl rfl rfl rfl rfl (by simp) cw2 (Il L hL nm _) ?_;exact zh.o):=g ⟨h⟩
def acs (h:q) (g:Zh q → p:=by intro zh;refine aj 4 gB ?_;refine av rfl rfl rfl rfl rfl (by simp) cw4 (hT _) ?_;exact zh.o):=g ⟨h⟩
def acu (h:q) (g:Zh q → p:=by intro zh;refine aj 3 gB ?_;refine av rfl rfl rfl rfl rfl (by simp) cw2 (hch _) ?_;exact zh.o):=g ⟨h⟩
def zt1 (h:p:=by
 have hcs : (cBs out).take a ++ [[C.str ⟨x.toArray⟩]] ++ (cBs out).drop a = cBs (fQ x out) := by rw [hins]; simp only [List.map_append, List.map_take, List.map_drop, List.map_cons, List.map_nil, cB]
 have hrow : ((cBs out).take a ++ [[C.str ⟨x.toArray⟩]]) ++ ((cBs out).take out.length).drop a = cBs (fQ x out) := by
  rw [show (cBs out).take out.length = cBs out from List.take_of_length_le (by simp)]; exact hcs
 have ha1 : (∀ z, z ∈ cBs out → z.length = 1) = True := eq_true fun z hz => by obtain ⟨y, -, rfl⟩ := List.mem_map.1 hz; rfl
 refine W.go ?_
 refine W.mono (K := fun e st' => e = .normal ∧ Le R.keep st' ⟨upd (upd (upd (upd (fun _ => .top) 3 (.own 60)) 7 (.c (.sl (cBs l)))) 8 (.c (.int .i64 l.length))) 9 (.c (.int .i64 k)), upd Mem.nil 60 (some (.arr 9 1 (cBs (fQ x out))))⟩) ?reg ?aft
 case reg =>
  refine zm4 ?_;refine W.lZ ah bC ⟨upd (upd (upd (upd (fun _ => .top) 3 (.own 60)) 7 (.c (.sl (cBs l)))) 8 (.c (.int .i64 l.length))) 9 (.c (.int .i64 k)), upd Mem.nil 60 (some (.arr 9 1 (cBs (fQ x out))))⟩ ?_ (fun st' h => ⟨rfl, h⟩);refine lN (base := 0) ah (by decide) aK 0 rfl rfl rfl aK aK ⟨_, fA, ?_⟩;refine lN (base := 0) ah (by decide) aK 1 rfl rfl rfl aK aK ⟨_, fA, ?_⟩;refine lN (base := 0) ah (by decide) aK 4 rfl rfl rfl aK aK ⟨_, fA, ?_⟩;refine lN (base := 0) ah (by decide) aK 7 rfl rfl rfl aK aK ⟨_, fA, ?_⟩;refine lN (base := 0) ah (by decide) aK 8 rfl rfl rfl aK aK ⟨_, fA, ?_⟩;refine sQ (base := 0) ah (by decide) ?_;refine aN 2 aK ⟨_, abY, ?_⟩;refine bY [3, 5, 9] aK (by decide) ?_;refine gI ah rfl 60 true rfl rfl rfl rfl rfl rfl fE fE dz rfl rfl rfl rfl Sq Oc (by decide) ?_ ?_;refine aN 5 aK ⟨_, fA, ?_⟩;refine bY [6, 9] aK (by decide) ?_;refine step_append ah rfl 60 true rfl rfl rfl rfl rfl rfl fE dz dz rfl rfl rfl rfl (cu hkeep) (by simp) Iw (by decide) ?_ ?_;refine aN 9 aK ⟨_, K5, ?_⟩;refine Jc ?_;refine step_append ah rfl 60 true rfl rfl rfl rfl rfl rfl fE dz dz rfl rfl rfl rfl (cu hkeep) Hu IQ (by decide) ?_ ?_;refine Ca ?_;simp only [List.drop_zero, List.length_map, take_len, dW, hrow]
  (refine iM ?sle ?mle (aQ hkeep)
   case sle => repeat (first | exact aM _ | exact aH _ | refine aL ?_ tH)
   case mle => repeat (first | exact aV _ | exact aF _ | refine aT ?_ u7))
  exact trivial;refine fH ⟨_, K5, ?_⟩ ?_;refine LZ ?_;refine step_append ah rfl 60 true rfl rfl rfl rfl rfl rfl fE dz dz rfl rfl rfl rfl (cu hkeep) (by simp) Iw (by decide) ?_ ?_;refine Jc ?_;refine step_append ah rfl 60 true rfl rfl rfl rfl rfl rfl fE dz dz rfl rfl rfl rfl (cu hkeep) Hu IQ (by decide) ?_ ?_;refine Ca ?_;simp only [List.drop_zero, List.length_map, take_len, dW, hrow]
  (refine iM ?sle ?mle (aQ hkeep)
   case sle => repeat (first | exact aM _ | exact aH _ | refine aL ?_ tH)
   case mle => repeat (first | exact aV _ | exact aF _ | refine aT ?_ u7))
  exact trivial;exact trivial;exact trivial;refine fH ⟨_, fA, ?_⟩ ?_;refine bY [3, 9] aK (by decide) ?_;refine gI ah rfl 60 true rfl rfl rfl rfl rfl rfl fE fE dz rfl rfl rfl rfl Sq Oc (by decide) ?_ ?_;refine bY [6, 9] aK (by decide) ?_;refine step_append ah rfl 60 true rfl rfl rfl rfl rfl rfl fE dz dz rfl rfl rfl rfl (cu hkeep) (by simp) Iw (by decide) ?_ ?_;refine aN 9 aK ⟨_, K5, ?_⟩;refine Jc ?_;refine step_append ah rfl 60 true rfl rfl rfl rfl rfl rfl fE dz dz rfl rfl rfl rfl (cu hkeep) Hu IQ (by decide) ?_ ?_;refine Ca ?_;simp only [List.drop_zero, List.length_map, take_len, dW, hrow]
  (refine iM ?sle ?mle (aQ hkeep)
   case sle => repeat (first | exact aM _ | exact aH _ | refine aL ?_ tH)
   case mle => repeat (first | exact aV _ | exact aF _ | refine aT ?_ u7))
  exact trivial;refine fH ⟨_, K5, ?_⟩ ?_;refine LZ ?_;refine step_append ah rfl 60 true rfl rfl rfl rfl rfl rfl fE dz dz rfl rfl rfl rfl (cu hkeep) (by simp) Iw (by decide) ?_ ?_;refine Jc ?_;refine step_append ah rfl 60 true rfl rfl rfl rfl rfl rfl fE dz dz rfl rfl rfl rfl (cu hkeep) Hu IQ (by decide) ?_ ?_;refine Ca ?_;simp only [List.drop_zero, List.length_map, take_len, dW, hrow]
  (refine iM ?sle ?mle (aQ hkeep)
   case sle => repeat (first | exact aM _ | exact aH _ | refine aL ?_ tH)
   case mle => repeat (first | exact aV _ | exact aF _ | refine aT ?_ u7))
  exact trivial;exact trivial;exact trivial;refine fH ⟨_, K5, ?_⟩ ?_;refine bY [3] aK (by decide) ?_;refine gI ah rfl 60 true rfl rfl rfl rfl rfl rfl fE fE dz rfl rfl rfl rfl Sq Oc (by decide) ?_ ?_;refine LZ ?_;refine step_append ah rfl 60 true rfl rfl rfl rfl rfl rfl fE dz dz rfl rfl rfl rfl (cu hkeep) (by simp) Iw (by decide) ?_ ?_;refine Jc ?_;refine step_append ah rfl 60 true rfl rfl rfl rfl rfl rfl fE dz dz rfl rfl rfl rfl (cu hkeep) Hu IQ (by decide) ?_ ?_;refine Ca ?_;simp only [List.drop_zero, List.length_map, take_len, dW, hrow]
  (refine iM ?sle ?mle (aQ hkeep)
   case sle => repeat (first | exact aM _ | exact aH _ | refine aL ?_ tH)
   case mle => repeat (first | exact aV _ | exact aF _ | refine aT ?_ u7))
  exact trivial;exact trivial;exact trivial;exact trivial;refine fH ⟨_, K5, ?_⟩ ?_;refine bY [3, 5] aK (by decide) ?_;refine gI ah rfl 60 true rfl rfl rfl rfl rfl rfl fE fE dz rfl rfl rfl rfl Sq Oc (by decide) ?_ ?_;refine aN 5 aK ⟨_, fA, ?_⟩;refine LZ ?_;refine step_append ah rfl 60 true rfl rfl rfl rfl rfl rfl fE dz dz rfl rfl rfl rfl (cu hkeep) (by simp) Iw (by decide) ?_ ?_;refine Jc ?_;refine step_append ah rfl 60 true rfl rfl rfl rfl rfl rfl fE dz dz rfl rfl rfl rfl (cu hkeep) Hu IQ (by decide) ?_ ?_;refine Ca ?_;simp only [List.drop_zero, List.length_map, take_len, dW, hrow]
  (refine iM ?sle ?mle (aQ hkeep)
   case sle => repeat (first | exact aM _ | exact aH _ | refine aL ?_ tH)
   case mle => repeat (first | exact aV _ | exact aF _ | refine aT ?_ u7))
  exact trivial;exact trivial;refine fH ⟨_, fA, ?_⟩ ?_;refine bY [3] aK (by decide) ?_;refine gI ah rfl 60 true rfl rfl rfl rfl rfl rfl fE fE dz rfl rfl rfl rfl Sq Oc (by decide) ?_ ?_;refine LZ ?_;refine step_append ah rfl 60 true rfl rfl rfl rfl rfl rfl fE dz dz rfl rfl rfl rfl (cu hkeep) (by simp) Iw (by decide) ?_ ?_;refine Jc ?_;refine step_append ah rfl 60 true rfl rfl rfl rfl rfl rfl fE dz dz rfl rfl rfl rfl (cu hkeep) Hu IQ (by decide) ?_ ?_;refine Ca ?_;simp only [List.drop_zero, List.length_map, take_len, dW, hrow]
  (refine iM ?sle ?mle (aQ hkeep)
   case sle => repeat (first | exact aM _ | exact aH _ | refine aL ?_ tH)
   case mle => repeat (first | exact aV _ | exact aF _ | refine aT ?_ u7))
  exact trivial;exact trivial;exact trivial;exact trivial;exact trivial
 case aft =>
  rintro e st' ⟨rfl, hle⟩;refine W.weaken hle ?_;clear hle st';refine W.asData 3 (x := .sl (cBs (fQ x out))) rfl ?_ (by decide);exact Wu
 ):=h
def zt2 (h:p:=by
 refine WI.loop (ι := Nat) (fun q => ⟨upd (upd (upd (upd (upd (fun _ => .top) 4 (.ptr 4 0)) 8 (.ptr 8 0)) 43 (.c (.sl (c.methods.map aI)))) 44 (.c (.int .i64 c.methods.length))) 45 (.c (.int .i64 q)),
  upd (bH (gK cs mn c false (dL cs ((upX cs (cs.length + 1) 0 c.name).take (k + 1)))) 1000 1001 1002 1003 x1 x2 xL') 8 (some (.box 42 ((au kc).map A.c)))⟩) (fun q => q ≤ c.methods.length ∧ (c.methods.take q).all (fun y => nV y kc.methods) = true) (fun q => c.methods.length - q) 0 ?start ⟨Nat.zero_le _, rfl⟩ ?round
 case start =>
  simp only [bH, gK];refine dU ?sle ?mle ?swf ?mwf hkeepL (by rfl)
  case swf => repeat (first | exact bP _ | refine bQ ?_ ZA)
  case mwf => repeat (first | exact d9 _ | refine dS ?_ aaq)
  case mle => repeat (first | exact aV _ | exact aF _ | refine aT ?_ ab5)
  case sle => repeat (first | exact aM _ | exact aH _ | refine aL ?_ abH)
 case round =>
  rintro q ⟨hq, hfit⟩;refine zm2 ?_;refine WI.cond rfl ?_ ?_
  ·intro hlt;replace hlt := dtl hlt;obtain ⟨y, hy⟩ : ∃ y, c.methods[q]? = some y := ⟨_, List.getElem?_eq_getElem hlt⟩
   repeat (first | refine WI.seq ?_ | refine WI.block ?_ | refine WI.skip ?_ | refine WI.exit ?_ | refine WI.region ah 0 (by decide) (by kernel_rfl) (aR abz) ?_)
   refine Rj ?_;refine aj 3 vM ?_;refine fJ rfl rfl rfl rfl rfl (by simp) (bM fO (bM (Ar (qB rfl rfl)) gJ)) (by rfl) (by rfl) (DV kc.methods 68 [aI y] (oV y.name) ZL (fun o _ m => KI o y m)) ?_;refine aA vM ?_;obtain ⟨hf1, hf2⟩ := Ra (y := y) (l := kc.methods);by_cases hneg : dO (oV y.name) kc.methods < 0
   ·have hd : decide ((0 : Int) ≤ dO (oV y.name) kc.methods) = false := by simp; omega
    refine abj ?_;refine aA YZ ?_;refine WI.cond rfl (fun h => by cases h) (fun _ => ?_);refine zm2 ?_;refine ⟨q + 1, ⟨hlt, ?_⟩, by omega, ?_⟩
    ·rw [List.take_add_one, hy, List.all_append, hfit]; simp [hf1 hneg]
    exact UC
   ·have hge : (0 : Int) ≤ dO (oV y.name) kc.methods := by omega
    have hd : decide ((0 : Int) ≤ dO (oV y.name) kc.methods) = true := by simp; omega
    obtain ⟨o, ho⟩ : ∃ o, kc.methods[(dO (oV y.name) kc.methods).toNat]? = some o := by
     obtain ⟨o, ho, -⟩ := rZ (oV y.name) kc.methods hge;exact ⟨o, ho⟩
    refine abj ?_;refine aj 9 abK ?_;refine av rfl rfl rfl rfl rfl (by simp) cw2 (Ox y o _) ?_;refine aA vM ?_;refine WI.cond rfl ?_ ?_
    ·intro hal;refine zm2 ?_;refine WI.ret ⟨fun j => j, gK cs mn c false (dL cs ((upX cs (cs.length + 1) 0 c.name).take (k + 1))), Le.toT ?_, hG _, fun b => ⟨.inr rfl, .inr ⟨b, 1002, rfl, rfl, rfl, ?_⟩⟩⟩
     ·exact zM
     ·simp only [Tryz.f34, aU, ay, toT, fin, eP, fF, DID, exb, simprocAttr, gK, kG];rw [bad2 y (List.mem_of_getElem? hy) aat]
    ·intro hal;refine zm2 ?_;refine ⟨q + 1, ⟨hlt, ?_⟩, by omega, ?_⟩
     ·rw [List.take_add_one, hy, List.all_append, hfit]; simp [hf2 o ho hge]; simpa using hal
     exact UC
  ·intro hge;replace hge := dnl hge;obtain rfl : q = c.methods.length := by omega
   refine zm2 ?_;rw [List.take_length] at hfit;refine ⟨good hfit, fun j => j, Le.toT ?_⟩;exact zM
 ):=h
def zt3 (h:p:=by
 refine vS (base := b) ah (by decide) aK 2 rfl rfl OT rfl rfl aK aK ⟨_, Zg, ?_⟩
 refine sQ (base := b) ah (by decide) ?_
 refine aN 0 aK ⟨_, YX, ?_⟩
 refine bY [1, 3] aK (by decide) ?_
 refine iN (D := []) rfl rfl rfl rfl rfl rfl rfl (fun u hu => by simp at hu) (by simp) cw1 hcl ?_ ?_
 simp only [dw, bS]
 refine aN 3 aK ⟨_, ab2, ?_⟩
 exact Ju
 refine fH ⟨_, Y1, ?_⟩ trivial
 refine bY [1] aK (by decide) ?_
 refine iN (D := []) rfl rfl rfl rfl rfl rfl rfl (fun u hu => by simp at hu) (by simp) cw1 hcl ?_ trivial
 simp only [dw, bS]
 exact Ju
 ):=h
def zt4 (h:p:=by
 rw [hhead]
 refine W.go ?_
 refine W.loop (ι := Nat) (fun i => ⟨upd (upd (upd (upd (fun _ => .top) 0 (.c (.sl (cBs L)))) 18 (.c (.sl (kids.map cExpr)))) 19 (.c (.int .i64 kids.length))) 20 (.c (.int .i64 i)), Mem.nil⟩)
  (fun i => i ≤ kids.length ∧ gL L (kids.take i) = true) (fun i => kids.length - i) 0 ?start ⟨Nat.zero_le _, by simp [gL]⟩ ?round
 case start =>
  exact Ph
 case round =>
  rintro i ⟨hi, hall⟩;refine W.go ?_;refine W.cond rfl ?_ ?_
  ·intro hlt;replace hlt := dtl hlt;obtain ⟨y, hy⟩ : ∃ y, kids[i]? = some y := ⟨_, List.getElem?_eq_getElem hlt⟩;have hym := List.mem_of_getElem? hy;have hys := List.sizeOf_lt_of_mem hym;have hcy := ih (SizeOf.sizeOf y) (by omega) y (Nat.le_refl _) (hsm.2.mem hym) L hL;have htk : gL L (kids.take (i + 1)) = kC L y := by
    rw [List.take_add_one, hy, lT, hall]; simp [gL]
   obtain ⟨yk, yn, ym, ys⟩ := y;simp only [cExpr, aX] at hcy
   repeat (first | refine W.q ?_ | refine W.g ?_ Xb)
   refine zm1 ?_;refine xs0 2 ?_;refine av rfl rfl rfl rfl rfl (by simp) cw2 (hcy _) ?_;cases hb : kC L ⟨yk, yn, ym, ys⟩ with
   | false =>
     skip;refine xe0 ?_;refine jA ?_;refine zm6 ?_;simp only [Tryz.f82, aU, ay, toT, fin, exb, simprocAttr];rw [hb] at htk;have : gL L kids = false := by
      have e : kids = kids.take (i + 1) ++ kids.drop (i + 1) := (List.take_append_drop _ _).symm;rw [e, lT, htk]; rfl
     rw [this]
   | true =>
     skip;refine xe0 ?_;refine GR ?_;refine ⟨i + 1, ⟨hlt, htk.trans hb⟩, by omega, ?_⟩;exact Vf
  ·intro hge;replace hge := dnl hge;obtain rfl : i = kids.length := by omega
   rw [List.take_length] at hall;refine W.go ?_;exact W.ret ⟨.inr rfl, by rfl, acf⟩
 ):=h
def zt5 (h:p:=by
 cases fa : mY 0 p.classes a b with
 | true =>
   rw [fa] at hfa;rw [show eD _ _ _ _ _ _ = some bO from by simp [eD, vG, hdT, ai, bi, fa, an, bn]];unfold isT at ai bi an bn;refine zm1 ?_;refine aj 24 BQ ?_;refine av rfl rfl rfl rfl rfl (by simp) cw3 (hfa _) ?_;refine aj 9 BQ ?_;exact Pn
 | false =>
   rw [fa] at hfa;cases fb : mY 0 p.classes b a with
   | true =>
     rw [fb] at hfb;rw [show eD _ _ _ _ _ _ = some bO from by simp [eD, vG, hdT, ai, bi, fa, fb, an, bn]];unfold isT at ai bi an bn;refine zm1 ?_;refine aar ?_;refine aj 3 BQ ?_;exact Pn
   | false =>
     rw [fb] at hfb;rw [show eD _ _ _ _ _ _ = none from by simp [eD, vG, hdT, ai, bi, fa, fb, an, bn]];unfold isT at ai bi an bn;refine W.tK (base := 0) (ch := fU) ah 34 (by decide) rfl ?_;refine aar ?_;refine aA BQ ?_;exact TF
 ):=h
def zt6 (h:p:=by
 have hmap : ∀ (l : List (Nat × Nat)) (fl : List Field), fl.map (fun f => (P.info? f.type).map fun i => (f.offset, i.size)) = l.map some → (fl.mapM (m := Sem) fun f => do pure (f.offset, ← sizeOf f.type)).run P w = .ok l w := by
  intro l fl;induction fl generalizing l with
  | nil => intro h; cases l with | nil => rfl | cons _ _ => cases h
  | cons f fl ih =>
    intro h;cases l with
    | nil => cases h
    | cons p l =>
      simp only [List.map_cons, List.cons.injEq] at h;obtain ⟨h5, h6⟩ := h;cases hi : P.info? f.type with
      | none => rw [hi] at h5; cases h5
      | some i =>
        rw [hi] at h5;cases h5
        have hsz : (do pure (f.offset, ← sizeOf f.type) : Sem (Nat × Nat)).run P w = .ok (f.offset, i.size) w := by simp [sizeOf, typeInfo, hi]
        rw [List.mapM_cons, Sem.run_bind, hsz, Result.andThen_ok, Sem.run_bind, ih l h6, Result.andThen_ok];rfl
 have hm2 : (fs.mapM (m := Sem) fun f => do pure (f.offset, ← sizeOf f.type)).run P w = .ok l.toArray w := by
  have := hmap l fs.toList hfs;rw [← Array.toArray_toList (xs := fs), List.mapM_toArray, map_eq_pure_bind, Sem.run_bind, this, Result.andThen_ok];rfl
 have hzr : (zeroValue ty).run P w = .ok z w := by simp [zeroValue, typeInfo, hi, hzz]
 have hrun : (Instr.build ty (parts.map fun p => (p.1, a.eval p.2))).run P w = .ok (.agg us.toArray) w := by
  unfold Instr.build;rw [Sem.run_bind, hzr, Result.andThen_ok];dsimp only;rw [Sem.run_bind, run_underlying hu, Result.andThen_ok];dsimp only;rw [Sem.run_bind, hm2, Result.andThen_ok, hc];have : Instr.fill (fun x => l.toArray[x]?) vs.toArray (parts.map fun p => (p.1, a.eval p.2)).toList = some us.toArray := by rw [← h2]; simp
  rw [this];rfl
 exact Vz
 ):=h
def zt7 (h:p:=by
 refine W.bl ?_
 refine W.cond rfl (fun _ => ?_) (fun h' => absurd (h.symm.trans h') (by simp))
 have k3 := s3 (by omega)
 obtain ⟨t0, tr, rfl⟩ : ∃ t0 tr, ts = t0 :: tr := by
  exact U2
 have hz2 : (0 < tr.length + 1) = True := eq_true (Nat.succ_pos _)
 have hsT : kr p.classes inn ret E sk ty (t0 :: tr) = isT t0 bO := by rcases h3 with rfl | rfl | rfl <;> simp [kr, hdT]
 refine W.bl ?_
 cases hi : isT t0 bO with
 | true =>
   have hi0 := hi;unfold isT at hi;refine zm8 ?_;refine aj 4 WX ?_;refine zm7 ?_;refine ⟨by rw [hsT, hi0], ?_⟩;exact dV
 | false =>
   exact Qc
 ):=h
def zt8 (h:p:=by
 have ft : ∀ (k : Nat) (l : List (List C)), (∀ x ∈ l, x.length = e) → flat (l.take k) = (flat l).take (k * e) := by
  intro k;induction k with
  | zero => intro l _; simp [flat]
  | succ k ih =>
    intro l hl;cases l with
    | nil => simp [flat]
    | cons x l =>
      have hx := hl x (by simp);have := ih l (fun y hy => hl y (List.mem_cons_of_mem _ hy));have hk : (k + 1) * e = e + k * e := by rw [Nat.add_mul]; omega
      simp only [flat, List.take_succ_cons, List.flatten_cons] at this ⊢;have h1 : x.length ≤ e + k * e := by omega
      have h2 : e + k * e - x.length = k * e := by omega
      rw [this, hk, List.take_append, List.take_of_length_le h1, h2]
 have fd : ∀ (k : Nat) (l : List (List C)), (∀ x ∈ l, x.length = e) → flat (l.drop k) = (flat l).drop (k * e) := by
  intro k;induction k with
  | zero => intro l _; simp [flat]
  | succ k ih =>
    intro l hl;cases l with
    | nil => simp [flat]
    | cons x l =>
      have hx := hl x (by simp);have := ih l (fun y hy => hl y (List.mem_cons_of_mem _ hy));have hk : (k + 1) * e = e + k * e := by rw [Nat.add_mul]; omega
      simp only [flat, List.drop_succ_cons, List.flatten_cons] at this ⊢;have h1 : x.length ≤ e + k * e := by omega
      have h2 : e + k * e - x.length = k * e := by omega
      rw [this, hk, List.drop_append, List.drop_eq_nil_of_le h1, h2, List.nil_append]
 rw [fd _ _ (fun x hx => hlx x (List.mem_of_mem_take hx)), ft _ _ hlx]
 ):=h
def zt9 (h:p:=by
 skip
 intro h
 simp only [decide_eq_true_eq] at h
 subst h
 refine W.go ?_
 refine W.cond rfl (fun _ => ?_) (fun h => absurd h (by decide))
 cases hw : mI ts [bO, bO] with
 | true =>
   have hwt : ∀ m, COk Tryz.prog 116 [.c (.sl (([bO, bO]).map cStr)), .rptr [.sl (ts.map cStr)]] m (.tup []) := fun m => by have := iW [bO, bO] ts htl9 m; rw [hw] at this; exact this
   exact jB
 | false =>
   have hwt : ∀ m, XOk Tryz.prog 116 [.c (.sl (([bO, bO]).map cStr)), .rptr [.sl (ts.map cStr)]] m fU := fun m => by have := iW [bO, bO] ts htl9 m; rw [hw] at this; exact this
   exact WT
 ):=h
def YD (h:p:=by
 skip
 intro h
 simp only [decide_eq_true_eq] at h
 subst h
 cases hw : mI ts [bO] with
 | true =>
   have hwt : ∀ m, COk Tryz.prog 116 [.c (.sl (([bO]).map cStr)), .rptr [.sl (ts.map cStr)]] m (.tup []) := fun m => by have := iW [bO] ts htl9 m; rw [hw] at this; exact this
   exact jB
 | false =>
   have hwt : ∀ m, XOk Tryz.prog 116 [.c (.sl (([bO]).map cStr)), .rptr [.sl (ts.map cStr)]] m fU := fun m => by have := iW [bO] ts htl9 m; rw [hw] at this; exact this
   exact WT
 ):=h
def YS (h:p:=by
 have hnb : ∀ o, ¬ I w.heap.size o := fun o ho => absurd (hm.there _ _ ho) (Nat.lt_irrefl _)
 refine ⟨_, _, I, rfl, hmd.alloc hid (v := .slice (some ⟨w.heap.size, 0, none⟩) 0 G) ⟨[], ⟨rfl, .inr ⟨w.heap.size, G, _, by rw [upd_same]; rfl, Nat.zero_le _, heap_alloc_new w.drew _, Nat.zero_le _, hle, hrow, by simp⟩⟩, trivial, fun x hx => by simp at hx, fun b hb o => ?_⟩ (fun k hk => ?_) (fun j hj => by simp [O.ids] at hj),
  ?_, fun j hj _ => upd_ne _ _ (hne j hj), (upd_same ..).symm, _, 0, G, rfl⟩
 ·rw [upd_same] at hb;obtain rfl : w.heap.size = b := by simpa [Value.ownBlock] using hb
  exact ⟨fun h => absurd h (hnb o), fun h => by simp at h⟩
 ·have hk : (upd B id (.slice (some ⟨w.heap.size, 0, none⟩) 0 G) id).ownBlock = some k := hk;rw [upd_same] at hk;have : w.heap.size = k := by simpa [Value.ownBlock] using hk
  exact this.symm
 ·exact ⟨fun _ _ k => k, fun b o ho => World.cell?_of_block (by
   have := hm.there b o ho;show ((w.drew.heap.push _)[b]?) = w.heap[b]?;rw [Array.getElem?_push_lt (by exact this)];exact (Array.getElem?_eq_getElem this).symm)⟩
 ):=h
def aao (h:p:=by
 refine ⟨hvl', ?_⟩
 rcases hrow.2 with ⟨e1, e2⟩ | ⟨g, off, c, cur, e1, hg, hnc', hm', hsz, htk⟩
 ·rw [hB] at e1;simp only [Value.slice.injEq] at e1;obtain ⟨rfl, -, rfl⟩ := e1;obtain rfl : hi = 0 := by omega
  obtain rfl : lo = 0 := by omega
  exact .inl ⟨by rw [hv]; rfl, rfl⟩
 ·rw [hB] at e1;cases e1
  by_cases hcl : cap = lo
  ·subst hcl;obtain rfl : hi = cap := by omega
   refine .inr ⟨g, off, 0, cur, by rw [hv]; simp, hg, by omega, by omega, by omega, ?_⟩;rw [Nat.sub_self, Nat.zero_mul, List.take_zero];exact (List.eq_nil_of_length_eq_zero (by rw [hvl']; simp)).symm
  ·have hcs : (cap - lo) * e = cap * e - lo * e := Nat.sub_mul ..;have hle3 : lo * e ≤ cap * e := Nat.mul_le_mul_right e (by omega);refine .inr ⟨g, off + lo * e, cap - lo, cur, by rw [hv, if_neg hcl]; simp [Addr.add], hg, by omega, by omega, by omega, ?_⟩;rw [← htk, List.take_take, Nat.min_eq_left (by omega), List.drop_take, List.drop_drop, ← hsub]
 ):=h
def aan (h:p:=by
 refine W.bl ?_
 refine W.bR ah 0 (by decide) ?_
 refine xs0 3 ?_
 refine av rfl rfl rfl rfl rfl (by simp) cw1 (hTh _) ?_
 refine xs0 0 ?_
 refine cK ah 3 rfl rfl rfl rfl rfl rfl rfl rfl nR rfl rfl rfl rfl (cu hkeep) (by simp [aJ]) aa3 (by decide) ?_
 refine xe0 ?_
 refine W.bl ?_
 refine W.bR ah 0 (by decide) ?_
 refine xs0 3 ?_
 refine av rfl rfl rfl rfl rfl (by simp) cw1 (hEl _) ?_
 refine xs0 0 ?_
 refine cK ah 3 rfl rfl rfl rfl rfl rfl rfl rfl nR rfl rfl rfl rfl (cu hkeep) (by simp [aJ]) aa3 (by decide) ?_
 refine xe0 ?_
 refine W.go ?_
 refine ⟨k + 1, hlt, by omega, ?_⟩
 rw [htk]
 refine iM ?sle ?mle (aQ hkeep)
 case mle => repeat (first | exact aV _ | exact aF _ | refine aT ?_ zq4)
 case sle => repeat (first | exact aM _ | exact aH _ | refine aL ?_ zq2)
 ):=h
def aaY (h:p:=by
 refine ⟨⟨B, I, ⟨Below.refl _ _, hm.zA, fun _ _ h => h, fun _ _ h => .inl h, hm.there, fun _ _ h => absurd h (bV _), fun _ _ h => absurd h (bV _), fun _ _ _ _ h => absurd h (bV _), fun _ _ h => absurd h (bV _)⟩, Ext.refl _ _, fun _ _ => rfl, oG hv⟩, fun t j hj => ?_, by simp [hlen]; omega, hl2, by rw [show dfs ((⟨entry args, Mem.nil⟩ : St).s DID) = [] from oM (fun a ha l e => by subst e; exact hd2 _ ha l rfl)]; rfl, fun j hj => hj.elim⟩
 simp only [entry, List.getD_eq_getElem?_getD] at hj
 cases hx : args[t]? with
 | none => rw [hx] at hj; simp [A.ids] at hj
 | some a => rw [hx] at hj; simp [hd1 a (List.mem_of_getElem? hx)] at hj
 ):=h
def aau (h:p:=by
 cases hq
 obtain ⟨hu, -, i', hi', hn'⟩ := hT.elem _ _ _ he
 obtain ⟨vs, hrow, -⟩ := hm.objs j _ hj
 have hml : xs.length ≤ maxLen := by
  rcases hrow.2 with ⟨-, e1⟩ | ⟨g, o, c, cur, e1, hg, hnc, hm', hs, ht⟩
  ·rw [e1]; exact Nat.zero_le _
  ·exact Nat.le_trans hnc hm'
 obtain ⟨ad, cap, hB, hnc⟩ := hrow.shape
 have hxv : a.eval x = .slice ad xs.length cap := hx.1.trans hB
 refine same (v := .int .i64 xs.length) ?_ (.int ?_) (fun i hi => by simp [A.ids] at hi)
 ·simp [execOp, hop, resolve, invoke, builtin, Builtin.len_, hxv, run_underlying hu, goInt]
 ·simp [Lit.wf, IntKind.min, IntKind.max, IntKind.bits, IntKind.signed];unfold maxLen at hml;omega
 ):=h
def Y5 (h:p:=by
 refine ⟨⟨B, I, ⟨Below.refl _ _, hm.zA, fun _ _ h => h, fun _ _ h => .inl h, hm.there, fun _ _ h => absurd h (bV _), fun _ _ h => absurd h (bV _), fun _ _ _ _ h => absurd h (bV _), fun _ _ h => absurd h (bV _)⟩, Ext.refl _ _, fun _ _ => rfl, oG hv⟩, fun t j hj => ?_, by simp [hlen]; omega, hle2, by rw [show dfs ((⟨entry args, Mem.nil⟩ : St).s DID) = [] from oM hdf]; rfl, fun j hj => hj.elim⟩
 simp only [entry, List.getD_eq_getElem?_getD] at hj
 cases hx : args[t]? with
 | none => rw [hx] at hj; simp [A.ids] at hj
 | some a => rw [hx] at hj; simp [hids a (List.mem_of_getElem? hx)] at hj
 ):=h
def YL (h:p:=by
 refine bY [5] aK (by decide) ?_
 refine I4 rfl rfl rfl rfl rfl rfl (by simp) cw1 (hde _) ?_ trivial
 refine bY [6] aK (by decide) ?_
 refine step_append ah rfl 2 true rfl rfl rfl rfl rfl rfl Yt UW UW rfl rfl rfl rfl (cu hkeep) (by simp [aJ]) Ai (by decide) ?_ ?_
 ·skip;refine aN 7 aK ⟨_, fA, ?_⟩;refine kI aK ?_;refine iM ?sle ?mle (aQ hkeep)
  case mle => repeat (first | exact aV _ | exact aF _ | refine aT ?_ aco)
  case sle => repeat (first | exact aM _ | exact aH _ | refine aL ?_ ab9)
 ·trivial
 ):=h
def YW (h:p:=by
 refine dU ?sle ?mle ?swf ?mwf (fun i hi => by repeat (first | exact kept i hi | refine cO i ?_)) (by rfl)
 case swf => repeat (first | exact bP _ | refine bQ ?_ WS)
 case mwf => exact dH (dH hWF (fun i hi => by simp only [O.ids] at hi; first | (rw [gD] at hi; cases hi) | (rw [← mE, gD] at hi; cases hi))) (fun i hi => by simp [O.ids, A.ids] at hi)
 case mle => first | exact aF _ | exact Xp (fun e => cast (hbj 5) e)
 case sle => repeat (first | exact aM _ | exact aH _ | refine aL ?_ ZO)
 ):=h
def Y9 (h:p:=by
 rcases other hz with ⟨rfl, rfl⟩ | ⟨hj, ho⟩
 ·cases fz with
  | true => exact ⟨[], by rw [upd_same]; exact World.ownsRow_nil w 0 ty e, trivial, fun x hx => by simp at hx, fun b hb => by simp [upd_same, Value.ownBlock] at hb⟩
  | false => exact ⟨[], by rw [upd_same]; exact ⟨by simp, .inl ⟨rfl, rfl⟩⟩, trivial, fun x hx => by simp at hx, fun b hb => by simp [upd_same, Value.ownBlock] at hb⟩
 ·exact RO.mono (Ext.refl _ _) (hB j (live ho)) (fun i hi => hB i (hm.live j z ho i hi)) (fun _ _ => rfl) (fun _ _ _ hp => hp) (hm.objs j z ho)
 ):=h
def Yg (h:p:=by
 have hr0 : qw M j L (bE l) = none := by unfold qw; rw [hd1]
 have hX0 : ou M j L (bE l) = upd M j (some (.map (BG L' n'))) := by unfold ou; rw [hd1]
 obtain rfl : r = none := hr.symm.trans hr0
 obtain rfl : Mx = _ := hX.symm.trans hX0
 refine W.bl ?_
 refine W.tK (base := b) (ch := fU) OO.ah 3 (by decide) rfl ?_
 refine aA Y4 ?_
 exact ⟨_, vQ (D := []) (fun u hu => by simp at hu) rfl rfl rfl rfl (by simp) cw2 (hXc _ (far40 _ _) (at40 _ _)), by rfl, rfl, PS (fun e => cast (hbj 5) e) hf5⟩
 ):=h
def aa4 (h:p:=by
 refine av rfl rfl rfl rfl rfl (by simp) cw1 (F5 x.params hpx _) ?_
 refine xe0 ?_
 refine W.cond rfl ?_ ?_
 ·intro ht;refine zm6 ?_;simp only [Tryz.f44, aU, ay, toT, fin, exb, simprocAttr];have : jm cs l c.methods = false := l9 hlt (by rw [hrow, ht]; rfl);rw [this]
 ·intro ht;refine W.go ?_;refine ⟨j + 1, ⟨hlt, fun i hi => ?_⟩, by omega, ?_⟩
  ·rcases Nat.lt_succ_iff_lt_or_eq.1 hi with h | h
   ·exact hall i h
   ·subst h; rw [hrow, ht]; rfl
  exact UH
 ):=h
def YQ (h:p:=by
 apply Array.ext'
 apply List.ext_getElem?
 intro j
 rw [hc]
 by_cases hj : j < len * n
 ·have hjm : j % n < vs.length := by rw [hvl]; exact Nat.mod_lt _ hn0
  simp only [Array.toList_map, Array.toList_range, List.getElem?_map, List.getElem?_range hj, Option.map_some];rw [qY hvl _ _ hj, List.getElem?_eq_getElem hjm];simp only [hvl, List.size_toArray, getElem!_def, List.getElem?_toArray, List.getElem?_eq_getElem hjm]
 ·rw [List.getElem?_eq_none (by simp; omega), List.getElem?_eq_none (by rw [gT hvl]; omega)]
 ):=h
def Zc (h:p:=by
 unfold Instr.buildSlice
 rw [Sem.run_bind, run_underlying hu, Result.andThen_ok]
 dsimp only
 rw [Sem.run_bind, hszr, Result.andThen_ok]
 rw [if_neg (by omega)]
 have hne : len * n ≠ 0 := Nat.mul_ne_zero (by omega) (by omega)
 have : Instr.fill (fun i => some (i * n, n)) (List.replicate len vs).flatten.toArray (parts.map fun p => (p.1, a.eval p.2)).toList = some us.toArray := by rw [← h2]; simp
 simp only [if_neg hne, Sem.run_bind, hzr, Result.andThen_ok, Sem.run_pure, hbz, this]
 simp [newRow]
 ):=h
def aax (h:p:=by
 refine xe0 ?_
 refine W.go ?_
 refine ⟨ts ++ [t], ⟨by simp only [List.length_append, List.length_singleton]; omega, by rw [List.length_append, List.length_singleton, happ]⟩, by simp only [List.length_append, List.length_singleton]; omega, ?_⟩
 refine iM ?sle ?mle (aQ hkeep)
 case mle => repeat (first | exact aV _ | exact aF _ | refine aT ?_ zq5)
 case sle => repeat (first | exact aM _ | exact aH _ | refine aL ?_ zq3)
 ):=h
def aaR (h:p:=by
 refine ⟨⟨B, I, hm, Ext.refl _ _, fun _ _ => rfl, oG hv⟩, fun t i hi => ?_, by simp [hlen]; omega, hl2, by rw [show dfs ((⟨entry args, M⟩ : St).s DID) = [] from oM (fun a ha l e => by subst e; exact hd2 _ ha l rfl)]; rfl, fun i hi => hi.1⟩
 simp only [entry, List.getD_eq_getElem?_getD] at hi
 cases hx : args[t]? with
 | none => rw [hx] at hi; simp [A.ids] at hi
 | some a => rw [hx] at hi; exact hids a (List.mem_of_getElem? hx) i hi
 ):=h
def YU (h:p:=by
 exact dV
 ):=h
def G7 (h:p:=by
 refine dU ?sle ?mle ?swf ?mwf (fun i hi => by repeat (first | exact kept i hi | refine cO i ?_)) (by rfl)
 case swf => repeat (first | exact bP _ | refine bQ ?_ abX)
 case mwf => repeat (first | exact hWF | refine dH ?_ (fun i hi => by simp [O.ids, A.ids] at hi))
 case mle => first | exact aF _ | exact gY (aF _) SB
 case sle => repeat (first | exact aM _ | exact aH _ | refine aL ?_ ab8)
 ):=h
def ZB (h:p:=by
 exact jB
 ):=h
def XI (h:p:=by
 rename_i x y hc hargs
 have hx : x ∈ (Op.call c).operands := by
  exact Vo
 have hy : y ∈ (Op.call c).operands := by
  simp only [Op.operands, Call.operands];have : y ∈ c.args := by rw [← Array.mem_toList_iff, hargs]; simp
  exact Uc
 rw [hs x hx, hs y hy]
 ):=h
def abn (h:p:=by
 refine W.ret ⟨.inr rfl, by rfl, j, (some L), ?res, ?hi, ?hx, ?hij, ?keep⟩
 case res => simp only [Tryz.f26, resE, ay, fin, toT, jq, exb, simprocAttr] <;> rfl
 case hi => exact (upd_ne _ _ (fun e => cast (hjb _) e)).trans h2j
 case hx => exact .inl rfl
 case hij => exact .inl rfl
 case keep => exact fun u z hu hz => .inl ((upd_ne _ _ (fun e => by subst e; rw [hM] at hz; cases hz)).trans (hk2 u z hu hz))
 ):=h
def aaX (h:p:=by
 obtain rfl : r = none := hr.symm.trans Mv
 have nkc : ¬ Rr.keep c0 := by rw [hkeep]; intro h; exact h.2 (by simp [DB])
 refine W.bl ?_
 refine W.tK (base := b) (ch := fU) BB.ah 3 (by decide) rfl ?_
 refine aA abb ?_
 exact ⟨_, vQ (D := [c0, e]) (fun u hu => by simp at hu; rcases hu with rfl | rfl <;> assumption) rfl rfl rfl rfl (by simp) cw2 hT, rfl, by rfl, Zr KY⟩
 ):=h
def YB (h:p:=by
 refine dU ?sle ?mle ?swf ?mwf ?kept QH
 case kept => exact aQ hkeep
 case swf => repeat (first | exact bP _ | refine bQ ?_ Bd)
 case mwf => repeat (first | exact d9 _ | refine dS ?_ F8)
 case mle => repeat (first | exact aV _ | exact aF _ | refine aT ?_ abI)
 case sle => repeat (first | exact aM _ | refine aL ?_ abW)
 ):=h
def WW (h:p:=by
 skip
 refine xe0 ?_
 refine W.ct rfl ?_
 refine W.go ?_
 have hno : gL H (jh k es) = false := by
  cases h : gL H (jh k es) with
  | false => rfl
  | true => exact absurd (hall.1 h i _ hx) (by rw [hat, hb2]; decide)
 have hst : wK H ⟨k, nn, ty, nm, es, th, el⟩ = ([], false, false) := by simp only [wK]; rw [hno]; rfl
 exact W.ret ⟨.inr rfl, by rfl, ace⟩
 ):=h
def YR (h:p:=by
 repeat (first | refine W.q ?_ | refine W.region ah b (by decide) (aR zT) ?_)
 refine W.ct rfl ?_
 repeat (first | refine W.q ?_ | refine W.region ah b (by decide) (aR zT) ?_)
 refine W.ret ⟨.inr rfl, by rfl, ?_, ?mle⟩
 simp only [Tryz.f55, resE, ay, fin, toT, exb, simprocAttr]
 case mle => exact gY (dY rfl) (hM 3)
 ):=h
def Xa (h:p:=by
 rename_i x y z hc hargs
 have hop : ∀ u ∈ [x, y, z], u ∈ (Op.call c).operands := fun u hu => by
  simp only [Op.operands, Call.operands];have : u ∈ c.args := by rw [← Array.mem_toList_iff, hargs]; exact hu
  exact Uc
 rw [hs x (hop x (by simp)), hs y (hop y (by simp)), hs z (hop z (by simp))]
 ):=h
def aa6 (h:p:=by
 repeat (first | refine W.q ?_ | refine W.g ?_ Pb)
 refine W.bR ah 0 (by decide) ?_
 refine aj 5 gB ?_
 refine av rfl rfl rfl rfl rfl (by simp) cw2 (hkn _) ?_
 refine xe0 ?_
 refine W.go ?_
 refine ⟨(j + 1, KN), ⟨hlj, by rw [hall2]; rfl⟩, by dsimp only; omega, ?_⟩
 exact UH
 ):=h
def abq (h:p:=by
 refine RCs.of Yo fun j v x hv hx => ?_
 have hj : j < len * n := by have := (List.getElem?_eq_some_iff.1 hv).1; rwa [gT hvl] at this
 rw [qY hvl _ _ hj] at hv
 rw [qY hh.1 _ _ hj] at hx
 obtain ⟨v', h2, h3⟩ := hrc.at _ _ hx
 have : v' = v := Option.some.inj (h2.symm.trans hv)
 subst this; exact h3
 ):=h
def abm (h:p:=by
 exact WT
 ):=h
def Yf (h:p:=by
 simp only [IU, h2, Bool.and_eq_true, List.all_eq_true] at hk
 have := hk.2 j (List.mem_range.2 hji)
 rw [hoj] at this
 simp only [Bool.or_eq_true] at this
 refine this.resolve_right fun ha => ?_
 have hjl := mV hc _ i oi h2 h3 ha
 have := ((hmem j).1 (by simp [hj])).2
 rw [vE hjl] at this
 cases this
 ):=h
def Z6 (h:p:=by
 simp only [execOp, hop, resolve, hc, hfv, Deferred.ofValue, Sem.run_bind, Sem.run_pure, Result.andThen_ok, invoke]
 rw [show (#[] ++ Array.map a.eval c.args ++ (List.map B ids).toArray) = (List.map a.eval c.args.toList ++ List.map B ids).toArray by rw [← List.map_toArray]; simp]
 exact (hk Mem.nil).1 _ _
 ):=h
def YH (h:p:=by
 refine W.ret ⟨.inr rfl, by rfl, j, (some L), ?res, ?hi, ?hx, ?hij, ?keep⟩
 case res => simp only [Tryz.f26, resE, ay, fin, toT, jq, exb, simprocAttr] <;> rfl
 case hi => exact h2j
 case hx => exact .inl rfl
 case hij => exact .inl rfl
 case keep => exact fun u z hu hz => .inl (hk2 u z hu hz)
 ):=h
def YC (h:p:=by
 rw [hset]
 by_cases e : k = i
 ·subst e;rw [if_pos rfl];refine ⟨fun hk => ?_, fun hk => by cases hk.2⟩;exfalso;rcases List.mem_append.1 hk with hk | hk
  ·have := hpp.2.2 k hk k (by simp); omega
  ·have := (List.pairwise_cons.1 hpp.2.1).1 k hk; omega
 ·rw [if_neg e, ← hmem k];simp [e]
 ):=h
def ZC (h:p:=by
 simp only [execOp, hop, resolve, hc, hfv, Deferred.ofValue, Sem.run_bind, Sem.run_pure, Result.andThen_ok, invoke]
 rw [show (#[] ++ Array.map a.eval c.args ++ (List.map B ids).toArray) = (List.map a.eval c.args.toList ++ List.map B ids).toArray by rw [← List.map_toArray]; simp]
 exact hk.1 _ _
 ):=h
def ZY (h:p:=by
 simp only [execOp, hop, resolve, hc, hfv, Deferred.ofValue, Sem.run_bind, Sem.run_pure, Result.andThen_ok, invoke]
 rw [show (#[] ++ Array.map a.eval c.args ++ (List.map B ids).toArray) = (List.map a.eval c.args.toList ++ List.map B ids).toArray by rw [← List.map_toArray]; simp]
 exact k1 _ _
 ):=h
def aaj (h:p:=by
 refine xe0 ?_
 refine W.go ?_
 refine ⟨k + 1, hlt, by omega, ?_⟩
 rw [htk]
 refine iM ?sle ?mle (aQ hkeep)
 case mle => repeat (first | exact aV _ | exact aF _ | refine aT ?_ abB)
 case sle => repeat (first | exact aM _ | exact aH _ | refine aL ?_ abP)
 ):=h
def aak (h:p:=by
 simp only [execOp, hop, e2, Instr.loadAt, Instr.sureAddr, Sem.run_bind, Sem.run_pure, Result.andThen_ok]
 rw [lV hT hty (b := b) (off := off) (cs := (vs.drop off).take n) Ah (fun k v hk => ?_)]
 ·rfl
 ·exact SY
 ):=h
def XU (h:p:=by
 refine W.go ?_
 refine W.ct rfl ?_
 exact OV
 ):=h
def MI (h:p:=by
 obtain ⟨cal, args, tys⟩ := c
 have h7 := h.callee
 have h8 := h.args
 have h9 := h.tys
 simp only at h7 h8 h9
 subst h7 h8 h9
 simp only [execOp, h.op, resolve, invoke, builtin, Sem.run_bind, Sem.run_pure, Result.andThen_ok, List.map_toArray, List.map_cons, List.map_nil, hx, hyv, r1]
 ):=h
def Yu (h:p:=by
 obtain ⟨⟨B, I, hmr, hx0, hkp, hs⟩, h2, h3, hnn, h4, h5⟩ := hr
 have hE : Ext w w.drew I I := ⟨fun _ _ k => k, fun _ _ _ => rfl⟩
 exact ⟨⟨B, I, hmr.call (Below.refl _ _).drew, hx0.trans hE, hkp, fun t => (hs t).mono hE fun _ _ => rfl⟩, h2, h3, hnn, h4, h5⟩
 ):=h
def Zl (h:p:=by
 skip
 refine xe0 ?_
 refine W.cf rfl ?_
 refine W.go ?_
 refine ⟨i + 1, ⟨hlt, fun i' x h1 h2 => ?_⟩, by omega, ?_⟩
 ·rcases Nat.lt_succ_iff_lt_or_eq.1 h1 with h | rfl
  ·exact hpre i' x h h2
  ·rw [hx] at h2; cases h2; exact hat.trans hb2
 exact Vf
 ):=h
def Ro (h:p:=by
 refine dU ?sle ?mle ?swf ?mwf (kept _) (by rfl)
 case swf => repeat (first | exact bP _ | refine bQ ?_ Tm)
 case mwf => exact hwJ _
 case sle => repeat (first | exact aM _ | exact aH _ | refine aL ?_ ach)
 case mle => exact XD (hM 7) hjs
 ):=h
def ZK (h:p:=by
 intro hge
 replace hge := dnl hge
 obtain rfl : k = i := by omega
 refine W.go ?_
 refine ⟨k + 1, ⟨hlt, fun j hj => ?_⟩, by omega, ?_⟩
 ·rcases Nat.lt_succ_iff_lt_or_eq.1 hj with h | h
  ·exact hall j h
  ·subst h; exact uX hin
 exact VD
 ):=h
def aaZ (h:p:=by
 rw [show eD _ _ _ _ _ _ = none from by simp [eD, vG, hdT, ai, bi]]
 unfold isT at ai bi
 refine W.tK (base := 0) (ch := fU) ah 34 (by decide) rfl ?_
 refine aA Us ?_
 exact TF
 ):=h
def YG (h:p:=by
 simp only [qv1]
 exact Tz
 ):=h
def aa7 (h:p:=by
 refine aA Ak ?_
 intro st' hs hm
 refine ⟨_, jM rfl rfl rfl rfl yC (bg (.inl (hs 61 (by decide)).symm) jL) (nI _), rfl, ?_, ?_⟩
 ·exact WK
 ·rw [hm]; exact (MN KY)
 ):=h
def aaz (h:p:=by
 simp only [Bj, e2, asAddr, Sem.run_bind, Sem.run_pure, Result.andThen_ok]
 exact lV hT hty (b := b) (off := off) (cs := (vs.drop off).take n) Ah (fun k v hk => by
  rw [List.getElem?_take] at hk;split at hk
  ·exact hcell k v hk
  ·cases hk)
 ):=h
def aaP (h:p:=by
 rcases other hz with ⟨rfl, rfl⟩ | ⟨hj, ho⟩
 ·exact nofoot hk
 ·rcases other hz' with ⟨rfl, rfl⟩ | ⟨hj', ho'⟩
  ·exact nofoot hk'
  ·exact hm.apart j z j' z' ho ho' hne' k ((pO (hB j (live ho))).1 hk) ((pO (hB j' (live ho'))).1 hk')
 ):=h
def YF (h:p:=by
 obtain ⟨i, z, h1, h2, h3, -⟩ := V.ah.zero 35 _ rfl
 obtain ⟨-, ⟨i', h4, h5⟩, -⟩ := V.ah.ty 35 _ _ rfl
 obtain ⟨i2, h6, h7⟩ := V.ah.bytes 35 _ rfl
 exact Qr
 ):=h
def aaC (h:p:=by
 exact OV
 ):=h
def ZI (h:p:=by
 refine ⟨?_, rfl, rfl, rfl, rfl, ?_, aQ hkeep⟩
 ·unfold gK;exact VF
 ·show SWf _ _;unfold gK kG;exact JD
 ):=h
def aam (h:p:=by
 rw [hrun]
 refine hcl.mono ?_
 rintro e w' ⟨v, I', rfl, h1, h2, h3, h4⟩
 exact done (hm.grow h1 h2 h3) (hm.ext h1 h2) (fun _ _ => rfl) (fun t => (hs t).mono (hm.ext h1 h2) fun _ _ => rfl) h4 (fun j hj => by rw [hk.2.1] at hj; simp at hj)
 ):=h
def ZE (h:p:=by
 intro st' hs hm
 refine ⟨_, jM rfl rfl rfl rfl yC (bg (.inl (hs 100 (by decide)).symm) jL) (nI _), rfl, ?_, ?_⟩
 ·exact WK
 ·rw [hm]; exact (MN KY)
 ):=h
def Yv (h:p:=by
 repeat (first | refine W.q ?_ | refine W.region ah b (by decide) (aR zT) ?_)
 refine W.ret ⟨.inr rfl, by rfl, ?_, ?mle⟩
 simp only [Tryz.f14, resE, ay, fin, toT, exb, simprocAttr]
 case mle => exact dY rfl
 ):=h
def Zw (h:p:=by
 repeat (first | refine W.q ?_ | refine W.region ah b (by decide) xr0 ?_)
 refine W.ret ⟨.inr rfl, by rfl, ?_, ?mle⟩
 simp only [Tryz.f86, resE, ay, fin, toT, exb, simprocAttr, he]
 case mle => exact dY rfl
 ):=h
def YI (h:p:=by
 exact Ph
 ):=h
def abp (h:p:=by
 refine iM ?sle ?mle (aQ hkeep)
 case mle => repeat (first | exact aV _ | exact aF _ | refine aT ?_ abZ)
 case sle => repeat (first | exact aM _ | exact aH _ | refine aL ?_ abv)
 ):=h
def Yi (h:p:=by
 exact Pn
 ):=h
def X9 (h:p:=by
 intro hne
 refine W.go ?_
 refine ⟨k + 1, ⟨hlk, fun j hj => ?_⟩, by omega, ?_⟩
 ·rcases Nat.lt_succ_iff_lt_or_eq.1 hj with h | h
  ·exact hin j h
  ·subst h; exact he.trans hne
 exact VD
 ):=h
def aay (h:p:=by
 refine xe0 ?_
 intro st' hs hm
 refine ⟨_, jM rfl rfl rfl rfl yC (bg (.inl (hs 125 (by decide)).symm) jL) (nI _), ?_, rfl⟩
 exact WK
 ):=h
def Io (h:p:=by
 intro hge
 replace hge := dnl hge
 obtain rfl : i = cms.length := by omega
 rw [List.take_length] at hma
 refine W.go ?_
 refine ⟨k + 1, ⟨hlt, hall1.trans hma⟩, by omega, ?_⟩
 exact VD
 ):=h
def aa5 (h:p:=by
 refine aA yS ?_
 refine W.ret ⟨.inr rfl, .inr ⟨b, 1002, rfl, rfl, rfl, ?_⟩⟩
 simp only [Tryz.f34, aU, ay, toT, fin, eP, fF, DID, exb, simprocAttr, gK]
 rw [hval, h1]; rfl
 ):=h
def PL (h:p:=by
 rw [hv, hB]
 cases ad with
 | none => right; split <;> rfl
 | some z =>
   left;split
   ·rfl
   ·obtain ⟨zb, zo, zs⟩ := z;simp only [Value.ownBlock, Addr.add, Option.map_some];split <;> rfl
 ):=h
def Z7 (h:p:=by
 repeat (first | refine W.q ?_ | refine W.g ?_ jJ)
 refine W.rt ?_
 simp only [Tryz.f16, aU, ay, toT, fin, exb, simprocAttr]
 simp only [eO, if_true, if_neg hl, h1, hb]; rfl
 ):=h
def Zn (h:p:=by
 refine W.ret ⟨.inr rfl, by rfl, ?_, ?mle⟩
 simp only [Tryz.f53, resE, ay, fin, toT, exb, simprocAttr]
 case mle => exact gY (gY (dY rfl) (hM 2)) (hM 3)
 rfl
 ):=h
def aaU (h:p:=by
 rw [Array.getD_eq_getD_getElem?, Array.getD_eq_getD_getElem?, Array.getElem?_setIfInBounds]
 by_cases e : i = k
 ·subst e; simp; split <;> rfl
 ·rw [if_neg e, if_neg (Ne.symm e)]
 ):=h
def ZJ (h:p:=by
 have e : ps.flatten = (ps.take k).flatten ++ (ps.drop k).flatten := by rw [← List.flatten_append, List.take_append_drop]
 rw [e, List.length_append]
 exact Nat.le_add_right _ _
 ):=h
def aaE (h:p:=by
 refine aA tY ?_
 exact ⟨_, (jM rfl rfl rfl rfl (by simp) cw1 (nI _)), .inr ⟨v, 2, by rfl, by rfl, .inr ⟨rfl, _, 0, by rfl, hbad hpr _ _ Xo⟩⟩⟩
 ):=h
def Zz (h:p:=by
 have hk' : (upd B id (Value.slice (some ⟨w.heap.size, 0, none⟩) m m) id).ownBlock = some k := hk
 exact TB
 ):=h
def ZT (h:p:=by
 exact RC.sl (e := 0) (fun _ _ => undef) rfl (Nat.le_refl _) (Nat.zero_le _) (fun x hx => by cases hx) (fun i x hx => by simp at hx) (fun i j x c hx _ => by simp at hx)
 ):=h
def aap (h:p:=by
 repeat (first | refine W.q ?_ | refine W.g ?_ Pb)
 refine ⟨(j + 1, false), ⟨hlj, by rw [hall2]; rfl⟩, by dsimp only; omega, ?_⟩
 exact UH
 ):=h
def ZX (h:p:=by
 simp only [Jj, Exit.inBlock] at h1 ⊢
 split
 ·rename_i e; rw [if_pos e] at h1; exact ⟨st', h1, h2⟩
 ·rename_i e; rw [if_neg e] at h1; exact ⟨st', h1, h2⟩
 ):=h
def aaQ (h:p:=by
 simp only [flat, List.flatten_cons] at this ⊢
 rw [List.getElem?_append_right Vq, hy, show (i + 1) * e + j - e = i * e + j by rw [Nat.add_mul]; omega]
 exact this
 ):=h
def Zj (h:p:=by
 rintro e w' ⟨rfl, rfl⟩
 exact ⟨_, _, I, rfl, hm.G8 hid true _ _, Ext.refl _ _, fun j hj _ => upd_ne _ _ (hne j hj), (upd_same ..).symm, none, 0, 0, rfl⟩
 ):=h
def W9 (h:p:=by
 intro hp
 refine W.go ?_
 refine ⟨k + 1, ⟨hlt, ?_⟩, by omega, ?_⟩
 ·rw [List.take_add_one, hx, List.any_append, hno]; simp [hp]
 exact VD
 ):=h
def Z4 (h:p:=by
 simp [Instr.mapUpdate, run_underlying hmap, MapKept.run_getObj_map hheap, hfine.check, e2, hj, e5, hfine.stays, MapKept.run_setObj_map _ hheap, Result.andThen]
 ):=h
def abf (h:p:=by
 rcases (kM D st.s t).2 with q | ⟨q, q2⟩
 ·rw [q]; trivial
 ·rw [q];exact (hs t).mono h2 fun j hj => h3 j (hr.ids t j hj) (fun hd => q2 j hd hj)
 ):=h
def Zb (h:p:=by
 split at h
 ·rename_i z hz;exact two rfl (fun i hi => by have := lq i hi; rw [KF hz] at this; simp at this) (Option.some.inj h)
 ·cases h
 ):=h
def YA (h:p:=by
 obtain ⟨vs, q1, q2, q3, q4⟩ := this
 exact ⟨vs, by rw [upd_same, hvB]; exact q1, q2, q3, fun k hk => by rw [upd_same, hvB] at hk; exact q4 k hk⟩
 ):=h
def aad (h:p:=by
 split at h
 ·split at h
  ·exact SC
  ·cases h
 ·cases h
 ):=h
def acz (h:p:=by
 rw [Array.getD_eq_getD_getElem?] at hk ⊢
 rw [Array.getElem?_setIfInBounds]
 by_cases e : i = k
 ·subst e; simp [hsz, hlt]
 ·rw [if_neg e]; exact hk
 ):=h
def XR (h:p:=by
 exact Vo
 ):=h
def ZF (h:p:=by
 refine ⟨v', w', I', r1, ?_, hm', hE⟩
 rcases r2.2 with ⟨q, -⟩ | ⟨g, cap, cur, q, -⟩
 ·exact ⟨_, _, _, q⟩
 ·exact ⟨_, _, _, q⟩
 ):=h
def Yw (h:p:=by
 refine xe0 ?_
 refine W.go ?_
 refine ⟨(i + 1, false), ⟨hli, by rw [hall3]; rfl⟩, by dsimp only; omega, ?_⟩
 exact Vf
 ):=h
def aaK (h:p:=by
 have hi := (List.getElem?_eq_some_iff.1 hx).1
 have : (i + 1) * e ≤ xs.length * e := Nat.mul_le_mul_right _ hi
 rw [Nat.add_mul] at this
 omega
 ):=h
def YM (h:p:=by
 simp only [hop, qv1, Option.some.injEq, Prod.mk.injEq] at hq; obtain ⟨rfl, rfl⟩ := hq
 exact same (by simp [execOp, hop]) (hev x) (hel x)
 ):=h
def abd (h:p:=by
 exact ⟨by simp [Instr.checkKey, run_underlying hd], by simp [isAgg, run_underlying hd], fun m => by cases m <;> simp [Instr.sameBits]⟩
 ):=h
def Zi (h:p:=by
 simp [Instr.mapUpdate, run_underlying hmap, MapKept.run_getObj_map hheap, hfine.check, e2, MapKept.run_setObj_map _ hheap, Result.andThen]
 ):=h
def aag (h:p:=by
 simp [Builtin.delete_, run_underlying hmap, MapKept.run_getObj_map hheap, hfine.check, e2, MapKept.run_setObj_map _ hheap, Result.andThen]
 ):=h
def aaD (h:p:=by
 simp only [execOp, hop, e2, Instr.loadAt, Instr.sureAddr, Sem.run_bind, Sem.run_pure, Result.andThen_ok]
 rw [qW hT hty hc0]
 rfl
 ):=h
def Vi (h:p:=by
 simp only [execOp, hop, hv, Instr.loadAt, Instr.sureAddr, Sem.run_bind, Sem.run_pure, Result.andThen_ok]
 rw [qW hT hty hc0]
 rfl
 ):=h
def V6 (h:p:=by
 rcases h4 with ⟨g, k1, -, -, k⟩ | ⟨k, -⟩ | ⟨-, k⟩
 ·exact k b (fun e => hne (by rw [k1, e]))
 ·exact k.block b hb
 ·rw [k]
 ):=h
def TT (h:p:=by
 rcases other hz with ⟨rfl, rfl⟩ | ⟨hj, ho⟩
 ·exact absurd hk nofoot
 ·exact hm.low j z ho k ((pO (hB j (live ho))).1 hk)
 ):=h
def Uj (h:p:=by
 refine av rfl rfl rfl rfl rfl (by simp) cw3 (hfi _) ?_
 exact WG
 ):=h
def Un (h:p:=by
 unfold upd at hz
 split at hz
 ·exact Tt
 ·rename_i e'; exact .inr ⟨e', hz⟩
 ):=h
def Vl (h:p:=by
 split at h
 ·rename_i y hy;refine two rfl (fun q hq => ?_) (Option.some.inj h);rw [xQ] at hq;exact hl x q aaf
 ·cases h
 ):=h
def VQ (h:p:=by
 repeat (first | refine W.q ?_ | refine W.g ?_ ND)
 exact VO
 ):=h
def VA (h:p:=by
 rcases other hz with ⟨rfl, rfl⟩ | ⟨hj, ho⟩
 ·cases fz <;> simp [dW, O.ids] at hi
 ·exact liv i (hm.live j z ho i hi)
 ):=h
def Wt (h:p:=by
 simp [execOp, hop, hxv, Instr.lookup, run_underlying hmap, MapKept.run_getObj_map hheap, hfine.check, e2, Result.andThen, hv1]
 ):=h
def Ve (h:p:=by
 unfold upd at hz
 split at hz
 ·exact U5
 ·rename_i e; exact .inr ⟨e, hz⟩
 ):=h
def Ul (h:p:=by
 intro hne
 refine W.go ?_
 refine ⟨k + 1, ⟨hlt, (oF hall hx).2 hne⟩, by omega, ?_⟩
 exact VD
 ):=h
def Nb (h:p:=by
 have hkr : RC w I (a.eval k) (.str s) := hkr
 generalize a.eval k = kv at hkr
 cases hkr with
 | str q => exact ⟨rfl, q⟩
 ):=h
def Tg (h:p:=by
 have := iU h
 rw [iH] at this
 exact List.eq_nil_iff_forall_not_mem.2 fun j hj => by simpa using this j hj
 ):=h
def U4 (h:p:=by
 intro hne
 refine W.go ?_
 refine ⟨j + 1, ⟨hlj, MJ hin hy hne⟩, by omega, ?_⟩
 exact UH
 ):=h
def Tf (h:p:=by
 dsimp only
 split
 ·rename_i hw; rw [if_pos hw] at hgo; exact .inl hgo
 ·rename_i hw; rw [if_neg hw] at hgo; exact hgo
 ):=h
def Uh (h:p:=by
 split at h
 ·exact Vg
 ·exact Vg
 ·cases h
 ):=h
def SK (h:p:=by
 simp only [qv1] at h
 exact SC
 ):=h
def Oj (h:p:=by
 rcases h4 with ⟨g, -, -, k, -⟩ | ⟨k, -⟩ | ⟨-, k⟩
 ·omega
 ·exact k.size
 ·rw [k]; exact Nat.le_refl _
 ):=h
def UR (h:p:=by
 split at h
 ·exact two rfl (fun q hq => by simp [A.ids] at hq; subst hq; exact hj) (Option.some.inj h)
 ·cases h
 ):=h
def Tw (h:p:=by
 refine W.cf rfl ?_
 refine W.go ?_
 refine ⟨i + 1, ⟨hli, hma1⟩, by omega, ?_⟩
 exact Vf
 ):=h
def UQ (h:p:=by
 cases hk : bK p with
 | true => rfl
 | false =>
   unfold eO oh at h;rw [hk] at h;simp [bG] at h
 ):=h
def TU (h:p:=by
 clear hrun hex hb' hE hlen hrow hcells
 induction m with
 | zero => rfl
 | succ m ih => simp [List.replicate_succ]
 ):=h
def FZ (h:p:=by
 rename_i e'; subst e'
 have : o = oi := Option.some.inj (ho.symm.trans h2)
 subst this
 exact hsetf _ (h3 e he hb)
 ):=h
def VY (h:p:=by
 obtain ⟨i, hi, rfl⟩ := List.mem_map.1 ha
 simp [A.ids] at hj
 subst hj
 exact hel x j (by rw [hx]; exact hi)
 ):=h
def Ub (h:p:=by
 rintro e w' ⟨rfl, hb⟩
 exact ⟨_, I, rfl, hb, fun _ _ k => k, fun _ _ k => .inl k, .int (zW _)⟩
 ):=h
def U7 (h:p:=by
 skip
 refine xe0 ?_
 refine W.go ?_
 refine W.ct rfl ?_
 refine W.go ?_
 exact W.ret ⟨.inr rfl, by rfl, Zu⟩
 ):=h
def Og (h:p:=by
 refine W.go ?_
 refine W.rt ?_
 simp only [Tryz.f10, aU, ay, toT, fin, exb, simprocAttr]
 all_goals rfl
 ):=h
def V8 (h:p:=by
 refine xe0 ?_
 refine W.ct rfl ?_
 rw [hno2 rfl]
 exact U1
 ):=h
def UG (h:p:=by
 rw [hc] at hfl
 obtain ⟨u, hu, hr⟩ := hvs'.at _ _ hfl
 rw [List.getD_eq_getElem?_getD, hu]
 exact hr
 ):=h
def WA (h:p:=by
 refine aA Cm ?_
 exact Vm
 ):=h
def U6 (h:p:=by
 unfold eO at hE
 split at hE
 ·split at hE
  ·cases hE
  ·omega
 ·rename_i h1; exact absurd hE h1
 ):=h
def TS (h:p:=by
 exact ⟨rfl, fun _ => ⟨fun _ => rfl, fun _ => rfl⟩, fun _ L' q => (by cases q), fun _ => rfl⟩
 ):=h
def TL (h:p:=by
 exact U2
 ):=h
def WC (h:p:=by
 have hk : (B id).ownBlock = some k := hk
 rw [hB] at hk; simp [Value.ownBlock] at hk; exact hk.symm
 ):=h
def NY (h:p:=by
 obtain ⟨n4, cs4, z4, q1, q2, q3⟩ := hall y hy
 exact Ih d n4 cs4 y z4 q1 q2 (by omega)
 ):=h
def Um (h:p:=by
 have hl1 : 1 ≤ ts.length := by omega
 match ts, hl1 with
 | a :: tr, _ => exact ⟨a, tr, rfl⟩
 ):=h
def NV (h:p:=by
 rintro e w' ⟨rfl, hb⟩
 exact ⟨_, I, rfl, hb, fun _ _ k => k, fun _ _ k => .inl k, .bool⟩
 ):=h
def UE (h:p:=by
 obtain ⟨n7, cs7, z7, r1, r2, r3⟩ := a5 y hy
 exact Al d n7 cs7 y z7 r1 r2 (by omega)
 ):=h
def WM (h:p:=by
 obtain ⟨n7, cs7, z7, r1, r2, r3⟩ := a6 y hy
 exact Al d n7 cs7 y z7 r1 r2 (by omega)
 ):=h
def WE (h:p:=by
 exact SC
 ):=h
def TV (h:p:=by
 obtain ⟨ad', cap', q, -⟩ := r2.shape
 exact ⟨v', w', I, r1, ⟨_, _, _, q⟩, hm', hE⟩
 ):=h
def VZ (h:p:=by
 refine ⟨k + 1, hlt, by omega, ?_⟩
 rw [hft, List.map_append]
 exact VD
 ):=h
def SV (h:p:=by
 simp only [Array.size_append, List.size_toArray, List.length_nil, size_zeroCells, hzs]
 omega
 ):=h
def TN (h:p:=by
 refine xe0 ?_
 exact TF
 ):=h
def VL (h:p:=by
 exact Wu
 ):=h
def Ue (h:p:=by
 have h2 : ts.length = 2 := by omega
 match ts, h2 with
 | [a, b], _ => exact ⟨a, b, rfl⟩
 ):=h
def zR (h:p:=by
 simp only [execOp, hop, hxv, hkv, Sem.run_bind]
 rw [ug hT he h0 (by omega)]
 rfl
 ):=h
def UZ (h:p:=by
 unfold upd at ho
 split at ho
 ·cases ho; simp [O.ids] at hj
 ·exact liv j (hw i o ho j hj)
 ):=h
def VB (h:p:=by
 rw [upd_same] at hb; simp [Value.ownBlock] at hb; subst hb
 have := hm.there _ _ ho; omega
 ):=h
def Ti (h:p:=by
 refine W.go ?_
 refine W.ct rfl ?_
 exact J9
 ):=h
def JO (h:p:=by
 simp only [qv1] at h
 exact Px
 ):=h
def S9 (h:p:=by
 simp only [qv2] at h
 exact Px
 ):=h
def Wy (h:p:=by
 intro h hm
 rcases List.mem_cons.1 hm with e | hm
 ·subst e; exact h.1
 ·exact ih h.2 hm
 ):=h
def TP (h:p:=by
 obtain ⟨ad', cp, e5, e6⟩ := hrow.shape
 rw [hB] at e5; cases e5; exact ⟨rfl, e6⟩
 ):=h
def TY (h:p:=by
 simp only [execOp, hop, hu, hv, Sem.run_bind, hg, Result.andThen_ok]
 simp [binOp, heq]
 ):=h
def J2 (h:p:=by
 rw [← q4, List.getElem?_take, if_pos hlt, List.getElem?_drop, Array.getElem?_toList]
 ):=h
def VH (h:p:=by
 exact Qr
 ):=h
def SQ (h:p:=by
 obtain ⟨i', hi', hlt, hle⟩ := h1
 exact ⟨μ i', hlt, i', hi', rfl, h2.le hle⟩
 ):=h
def SX (h:p:=by
 intro hq
 unfold Fy at hq
 rw [h1, h2] at hq
 exact hab (by rw [h1, h2, xA hq])
 ):=h
def VP (h:p:=by
 have hk : (upd B b v b).ownBlock = some k := hk
 rw [upd_same, hvB] at hk; exact hk
 ):=h
def Te (h:p:=by
 rw [l8 ps hl, List.length_append, ← Int.natCast_add, rU (by omega)]
 ):=h
def Ua (h:p:=by
 rw [List.mem_range]
 refine ⟨fun hi => ⟨hi, ?_⟩, fun hi => hi.1⟩
 simp [hi]
 ):=h
def Tx (h:p:=by
 unfold part
 simp only [Sem.run_bind, q2, Result.andThen_ok]
 simp [f3, ho.1, eu]
 ):=h
def Uq (h:p:=by
 (repeat (first | exact aM _ | exact aH _ | refine aL ?_ Zt))
 ):=h
def Tv (h:p:=by
 exact TF
 ):=h
def UA (h:p:=by
 rintro (h | h | h)
 ·exact .inr (.inl h)
 ·exact .inl h
 ·exact .inr (.inr h)
 ):=h
def Wz (h:p:=by
 simp [Lit.wf, IntKind.min, IntKind.max, IntKind.bits, IntKind.signed]
 omega
 ):=h
def Tk (h:p:=by
 exact VO
 ):=h
def WR (h:p:=by
 refine W.ct rfl ?_
 refine W.go ?_
 exact W.ret ⟨.inr rfl, by rfl, ab7⟩
 ):=h
def Jv (h:p:=by
 refine W.ct rfl ?_
 refine W.go ?_
 exact W.ret ⟨.inr rfl, by rfl, abJ⟩
 ):=h
def WL (h:p:=by
 refine W.cf rfl ?_
 exact U3
 ):=h
def VG (h:p:=by
 exact VF
 ):=h
def Wj (h:p:=by
 rw [List.getD_eq_getElem?_getD, List.getElem?_eq_getElem (by omega)]; rfl
 ):=h
def Uf (h:p:=by
 rw [← hfold, ← Array.foldl_toList]
 congr 1
 simp [Array.toList_zipIdx]
 ):=h
def Wn (h:p:=by
 simp only [execOp, hop, h2, Sem.run_bind]
 rw [D6 hT ho hv1]
 rfl
 ):=h
def M7 (h:p:=by
 simp only [List.length_append, List.length_cons, List.length_nil]; omega
 ):=h
def Uu (h:p:=by
 rw [if_neg he]
 exact Vt
 ):=h
def U8 (h:p:=by
 rw [if_neg he]
 exact Qs
 ):=h
def OB (h:p:=by
 rw [List.getElem?_eq_none (by omega), List.getElem?_eq_none (by omega)]
 ):=h
def Nh (h:p:=by
 exact WG
 ):=h
def Jr (h:p:=by
 simp only [execOp, hop, h2, Sem.run_bind]
 rw [nZ hT ho]
 rfl
 ):=h
def UU (h:p:=by
 exfalso
 have hk := (Array.getElem?_eq_some_iff.1 ho).1
 simp [hk] at hl
 ):=h
def Vr (h:p:=by
 simp only [gu, Option.some.injEq] at h
 exact .inl ⟨h.symm, rfl⟩
 ):=h
def VW (h:p:=by
 have := hT M' h1 h2; simp only [qw, ou, hd2] at this; exact this
 ):=h
def Ux (h:p:=by
 refine xe0 ?_
 exact U3
 ):=h
def U9 (h:p:=by
 have := hT M' h1 h2; simp only [qw, ou, hd] at this; exact this
 ):=h
def UL (h:p:=by
 exact Px
 ):=h
def ML (h:p:=by
 rcases List.mem_cons.1 h with rfl | h
 ·omega
 ·have := ih h; omega
 ):=h
def TQ (h:p:=by
 obtain rfl : j = id := by simpa [A.ids] using hj
 rw [upd_same]; rfl
 ):=h
def TD (h:p:=by
 refine aA Y2 ?_
 exact W.ret ⟨.inr rfl, by rfl, Ou⟩
 ):=h
def Ws (h:p:=by
 refine aA Za ?_
 exact W.ret ⟨.inr rfl, by rfl, abo⟩
 ):=h
def WQ (h:p:=by
 refine ⟨k + 1, hlt, by omega, ?_⟩
 exact VD
 ):=h
def OC (h:p:=by
 simp only [execOp, hop, h2, Sem.run_bind]
 rw [Me hT ho]
 rfl
 ):=h
def SF (h:p:=by
 rw [← q4, List.getElem?_take, if_pos hlt, Array.getElem?_toList]
 ):=h
def Qo (h:p:=by
 rw [p2] at q2
 have := Option.some.inj q2
 simp at this; exact this
 ):=h
def MZ (h:p:=by
 exact hm'.live j _ hj' i (List.mem_flatMap.2 ⟨a', ha', hi'⟩)
 ):=h
def Wo (h:p:=by
 unfold Addr.add
 by_cases hk : k = 0
 ·subst hk; rfl
 ·simp [hk]
 ):=h
def Om (h:p:=by
 exact WK
 ):=h
def Pw (h:p:=by
 (repeat (first | exact XP | refine Yd ?_ (by decide)))
 ):=h
def Pk (h:p:=by
 rename_i e; rw [e] at hx; exact two rfl hx (Option.some.inj h)
 ):=h
def V4 (h:p:=by
 obtain ⟨y, -, rfl⟩ := List.mem_map.1 ha; exact hel y j hj
 ):=h
def Vu (h:p:=by
 rw [List.getElem?_eq_none TK, List.getElem?_eq_none TK]
 ):=h
def V5 (h:p:=by
 rw [List.eq_of_mem_replicate hy1] at hy2
 simp [A1.ids] at hy2
 ):=h
def Wx (h:p:=by
 exact JD
 ):=h
def TA (h:p:=by
 exact two rfl (fun q hq => hl x q Zv) (Option.some.inj h)
 ):=h
def Js (h:p:=by
 split at h
 ·exact new rfl rfl (Option.some.inj h)
 ·cases h
 ):=h
def Ko (h:p:=by
 rw [List.all_eq_false]
 exact ⟨c, hcm, by rw [h]; decide⟩
 ):=h
def MO (h:p:=by
 have := nu p.classes (p.classes.length + 1) a; omega
 ):=h
def Qp (h:p:=by
 rcases h u h1 with h | h
 ·exact .inl h
 ·exact .inr h.symm
 ):=h
def Ur (h:p:=by
 rw [List.getElem?_eq_none (by simp; omega)] at hj; cases hj
 ):=h
def Nq (h:p:=by
 subst e1; rw [upd_same, upd_ne _ _ (Ne.symm hij), upd_same]
 ):=h
def PN (h:p:=by
 refine eq_false fun e => ?_
 subst e; rw [hM] at h; cases h
 ):=h
def Wq (h:p:=by
 rw [q] at hk; exact ⟨(hm.low id _ hj k hk).2, .inl hk⟩
 ):=h
def VI (h:p:=by
 rw [upd_same, List.length_replicate]; exact hrow hfl.symm
 ):=h
def T9 (h:p:=by
 exact Vt
 ):=h
def WO (h:p:=by
 exact Qs
 ):=h
def UK (h:p:=by
 unfold upd; split
 ·rfl
 ·rw [aB]; simpa using hi
 ):=h
def Vn (h:p:=by
 refine W.go ?_
 exact W.ret ⟨.inr rfl, by rfl, Zy⟩
 ):=h
def VK (h:p:=by
 obtain ⟨a', e', h⟩ := hnews j u hj
 cases e'; exact h
 ):=h
def SG (h:p:=by
 refine W.go ?_
 exact W.ret ⟨.inr rfl, by rfl, acj⟩
 ):=h
def Vs (h:p:=by
 rw [List.take_add_one, hx, List.all_append, hall]; simp
 ):=h
def NC (h:p:=by
 rw [List.take_add_one, hmi, List.all_append, hma]; simp
 ):=h
def O8 (h:p:=by
 rename_i j ex
 rw [ex] at hy
 rw [hy j (by simp [A.ids])]
 ):=h
def SI (h:p:=by
 subst e
 rw [hoi] at ho; cases ho
 exact ⟨st1, h, hr⟩
 ):=h
def VR (h:p:=by
 refine W.go ?_
 exact W.ret ⟨.inr rfl, by rfl, Y3⟩
 ):=h
def CF (h:p:=by
 refine W.go ?_
 exact W.ret ⟨.inr rfl, by rfl, aaL⟩
 ):=h
def ES (h:p:=by
 exact ⟨fun i hi => by simp [A.ids] at hi, .inl rfl⟩
 ):=h
def OY (h:p:=by
 refine xe0 ?_
 exact W.ret ⟨.inr rfl, by rfl, aci⟩
 ):=h
def Uw (h:p:=by
 unfold upd; split
 ·rfl
 ·simpa [aB] using hi
 ):=h
def SH (h:p:=by
 rw [hid] at hb'; exact h4 b hb' p (hI2 b hb' p hp)
 ):=h
def UD (h:p:=by
 split at e3
 ·cases e3; exact none_ rfl
 ·cases e3
 ):=h
def Tp (h:p:=by
 rw [← hv, ← hcur]
 simp [World.cell?, hcell]
 ):=h
def UJ (h:p:=by
 exact Vg
 ):=h
def Vk (h:p:=by
 simp only [World.cell?, hh]
 simpa using hk
 ):=h
def Ny (h:p:=by
 exact W.ret ⟨.inr rfl, by rfl, Vd⟩
 ):=h
def TR (h:p:=by
 rw [ex] at hx
 rw [hx j (by simp [A.ids])]
 ):=h
def V9 (h:p:=by
 subst hxe
 simp only [Rows.uptoBulk]
 omega
 ):=h
def MW (h:p:=by
 rename_i x t hc _ _
 rw [hc] at h
 cases h
 ):=h
def SN (h:p:=by
 simp only [List.length_cons]; omega
 ):=h
def Kk (h:p:=by
 unfold upd; split
 ·rfl
 ·exact hi
 ):=h
def TH (h:p:=by
 subst hu
 simp [World.cell?, hhq]
 ):=h
def TJ (h:p:=by
 intro k; exact absurd k.symm hne
 ):=h
def Ot (h:p:=by
 rw [Nat.add_mul] at this; omega
 ):=h
def O9 (h:p:=by
 exact VD
 ):=h
def PD (h:p:=by
 exact UH
 ):=h
def Ae (h:p:=by
 exact X4 (aQ hkeep)
 ):=h
def mQ (h:p:=by
 exact trivial
 ):=h
def Ju (h:p:=by
 refine bY [4] aK (by decide) ?_
 refine iN (D := [b + 60]) rfl rfl rfl rfl rfl rfl rfl (fun u hu => by simp at hu; subst hu; exact nkq) (by simp) cw2 hT2 ?_ trivial
 simp only [dw, bS]
 refine aN 5 aK ⟨_, fA, ?_⟩
 refine aN 6 aK ⟨_, SS, ?_⟩
 refine aN 7 aK ⟨_, SS, ?_⟩
 refine aN 8 aK ⟨_, fA, ?_⟩
 refine aN 9 aK ⟨_, fA, ?_⟩
 refine kI aK ?_
 refine dU ?sle ?mle ?swf ?mwf (fun i hi => cO i (kept2 i hi)) (by rfl)
 case swf => repeat (first | exact bP _ | refine bQ ?_ Zd)
 case mwf => exact dH hW2 (fun i hi => by simp [O.ids] at hi)
 case sle => repeat (first | exact aM _ | exact aH _ | refine aL ?_ abN)
 case mle => exact dY rfl
 ):=h
def dV (h:p:=by
 refine dU ?sle ?mle ?swf ?mwf (fun i hi => by repeat (first | exact kept i hi | refine cO i ?_)) (by rfl)
 case swf => repeat (first | exact bP _ | refine bQ ?_ ab3)
 case mwf => repeat (first | exact hWF | refine dH ?_ (fun i hi => by simp [O.ids, A.ids] at hi))
 case mle => first | exact aF _ | exact gY (aF _) SB
 case sle => repeat (first | exact aM _ | exact aH _ | refine aL ?_ ZO)
 ):=h
def jB (h:p:=by
 (repeat (first | refine W.seq ?_ | refine W.block ?_))
 refine W.bR ah 0 (by decide) ?_
 refine xs0 2 ?_
 refine fJ rfl rfl rfl rfl rfl Yj (bM fO (bM (nM rfl rfl) gJ)) (by rfl) (by rfl) hwt ?_
 refine xe0 ?_
 refine W.go ?_
 rw [show eD _ _ _ _ _ _ = _ from by simp [eD, hw]; rfl]
 refine W.ret ⟨by rfl, .inr rfl, ?_⟩
 simp only [Tryz.f70, aU, ay, toT, fin, exb, simprocAttr, Option.map_some]
 ):=h
def zM (h:p:=by
 simp only [bH, gK]
 refine dU ?sle ?mle ?swf ?mwf (fun j hj => iP (hG _) hj) (by rfl)
 case swf => repeat (first | exact bP _ | refine bQ ?_ Y8)
 case mwf => repeat (first | exact d9 _ | refine dS ?_ aaB)
 case mle => repeat (first | exact aV _ | exact aF _ | refine aT ?_ abV)
 case sle => repeat (first | exact aM _ | exact aH _ | refine aL ?_ abS)
 ):=h
def UC (h:p:=by
 simp only [bH, gK]
 refine dU ?sle ?mle ?swf ?mwf hkeepL (by rfl)
 case swf => repeat (first | exact bP _ | refine bQ ?_ abE)
 case mwf => repeat (first | exact d9 _ | refine dS ?_ abR)
 case mle => repeat (first | exact aV _ | exact aF _ | refine aT ?_ zq1)
 case sle => repeat (first | exact aM _ | exact aH _ | refine aL ?_ zq8)
 ):=h
def WT (h:p:=by
 rw [show eD _ _ _ _ _ _ = none from by simp [eD, hw]]
 (repeat (first | refine W.seq ?_ | refine W.block ?_))
 refine W.tK (base := 0) (ch := fU) ah 2 (by decide) rfl ?_
 refine xe0 ?_
 exact ⟨_, Bt rfl rfl rfl rfl Yj (bM fO (bM (nM rfl rfl) gJ)) hwt, by rfl, rfl⟩
 ):=h
def OV (h:p:=by
 refine W.bl ?_
 refine W.bR ah 0 (by decide) ?_
 refine xs0 1 ?_
 refine av rfl rfl rfl rfl rfl (by simp) (bg (o8 rfl) cw1) (Ky ts _ (by omega) _) ?_
 refine xe0 ?_
 exact Uo
 ):=h
def Qc (h:p:=by
 obtain rfl : r = none := hst0 (by rw [hsT, hi])
 unfold isT at hi
 refine W.tK (base := b) (ch := fU) ah 4 (by decide) rfl ?_
 refine aA WX ?_
 exact ⟨_, jM rfl rfl rfl rfl (by simp) cw1 (nI _), rfl, by rfl, (MN KY)⟩
 ):=h
def Tz (h:p:=by
 rw [show (parts.toList.map fun p => (p.1, j3 m' (ev s' p.2))) = parts.toList.map fun p => (p.1, j3 m (ev s p.2)) from List.map_congr_left fun p hp => by
  have e : ev s' p.2 = ev s p.2 := hs p.2 Y6;simp only [e, EC (hml p.2)]]
 ):=h
def Ph (h:p:=by
 refine iM ?sle ?mle (aQ hkeep)
 case mle => repeat (first | exact aV _ | exact aF _ | refine aT ?_ ab4)
 case sle => repeat (first | exact aM _ | exact aH _ | refine aL ?_ acd)
 ):=h
def Pn (h:p:=by
 refine av rfl rfl rfl rfl rfl (by simp) cw1 (Bv _) ?_
 refine xe0 ?_
 exact Ww
 ):=h
def Vo (h:p:=by
 simp only [Op.operands, Call.operands]
 have : x ∈ c.args := by rw [← Array.mem_toList_iff, hargs]; simp
 exact Array.mem_append.2 (.inr this)
 ):=h
def U2 (h:p:=by
 have hl1 : 1 ≤ ts.length := by omega
 match ts, hl1 with
 | t0 :: tr, _ => exact ⟨t0, tr, rfl⟩
 ):=h
def SC (h:p:=by
 split at h
 ·exact P9
 ·cases h
 ):=h
def Wu (h:p:=by
 refine W.go ?_
 refine ⟨k + 1, hlt, by omega, ?_⟩
 rw [htk]
 exact Ui (aQ hkeep)
 ):=h
def Qr (h:p:=by
 rw [h1] at h4 h6
 cases h4; cases h6
 exact ⟨i, z, h1, h2, h5, h7, by rw [h3]; rfl⟩
 ):=h
def TF (h:p:=by
 exact ⟨_, jM rfl rfl rfl rfl (by simp) cw1 (nI _), by rfl, rfl⟩
 ):=h
def Vm (h:p:=by
 refine W.ct rfl ?_
 exact Td
 ):=h
def VO (h:p:=by
 refine W.cf rfl ?_
 exact Td
 ):=h
def SY (h:p:=by
 rw [List.getElem?_take] at hk
 split at hk
 ·exact hcell k v hk
 ·cases hk
 ):=h
def VF (h:p:=by
 show MWf _ _
 (repeat (first | exact d9 _ | refine dS ?_ F8))
 ):=h
def WG (h:p:=by
 refine xe0 ?_
 refine W.go ?_
 exact W.ret ⟨.inr rfl, by rfl, Vd⟩
 ):=h
def Px (h:p:=by
 exact P9
 ):=h
def TB (h:p:=by
 rw [upd_same] at hk'; simp [Value.ownBlock] at hk'; exact hk'.symm
 ):=h
def WK (h:p:=by
 show dfs (st'.s 1000000) = []
 rw [hs 1000000 (by decide)]; rfl
 ):=h
def JD (h:p:=by
 (repeat (first | exact bP _ | refine bQ ?_ Bd))
 ):=h
def Tt (h:p:=by
 rename_i e'; exact .inl ⟨e', (Option.some.inj hz).symm⟩
 ):=h
def U5 (h:p:=by
 rename_i e; exact .inl ⟨e, (Option.some.inj hz).symm⟩
 ):=h
def U1 (h:p:=by
 refine W.go ?_
 exact W.ret ⟨.inr rfl, by rfl, aaN⟩
 ):=h
def Vt (h:p:=by
 refine W.go ?_
 exact W.ret ⟨.inr rfl, by rfl, ZU⟩
 ):=h
def Qs (h:p:=by
 refine W.go ?_
 exact W.ret ⟨.inr rfl, by rfl, Y7⟩
 ):=h
def U3 (h:p:=by
 exact Uo
 ):=h
def J9 (h:p:=by
 refine W.go ?_
 exact W.ret ⟨.inr rfl, by rfl, abU⟩
 ):=h
def Vz (h:p:=by
 simp only [execOp, hop]
 rw [Sem.run_bind, hrun]
 rfl
 ):=h
def Vg (h:p:=by
 exact two rfl (none_ rfl) (Option.some.inj h)
 ):=h
def Uc (h:p:=by
 exact Array.mem_append.2 (.inr this)
 ):=h
def VD (h:p:=by
 exact Ui (aQ hkeep)
 ):=h
def Vf (h:p:=by
 exact aae (aQ hkeep)
 ):=h
def UH (h:p:=by
 exact aai (aQ hkeep)
 ):=h
def Ww (h:p:=by
 refine W.go ?_
 refine W.ret ⟨by rfl, .inr rfl, ?_⟩
 simp only [Tryz.f70, aU, ay, toT, fin, exb, simprocAttr, Option.map_some]
 ):=h
def P9 (h:p:=by
 split at h
 ·exact two rfl (none_ rfl) (Option.some.inj h)
 ·cases h
 ):=h
def Uo (h:p:=by
 refine W.go ?_
 exact W.ret ⟨.inr rfl, by rfl, abM⟩
 ):=h
def Td (h:p:=by
 refine W.go ?_
 exact W.ret ⟨.inr rfl, by rfl, abu⟩
 ):=h
end
namespace V
open Go.RowKit
inductive C where
 | int (k : IntKind) (n : Int)
 | bool (b : Bool)
 | str (s : ByteArray)
 | sl (xs : List (List C))
inductive A1 where
 | top
 | c (x : C)
 | agg (xs : List C)
 | nil
 | ptr (id off : Nat)
 | own (id : Nat)
 | map (id : Nat)
 | nilv (v : Value)
inductive A where
 | top
 | undef
 | c (x : C)
 | agg (xs : List C)
 | nil
 | ptr (id off : Nat)
 | rptr (xs : List C)
 | own (id : Nat)
 | fn (f : FuncId) (ids : List Nat)
 | tup (xs : List (Bool × List C))
 | pinP (v : Value) (id off : Nat)
 | pinC (v : Value) (x : C)
 | pinG (v : Value) (xs : List C)
 | eptr (id e i f : Nat)
 | win (id e lo hi : Nat)
 | map (id : Nat)
 | nilv (v : Value)
 | ifc (t : TypeId) (x : Bool × List C)
 | tupA (xs : List A1)
 | aggA (xs : List A1)
 | nn (xs : List (List C))
 | defs (l : List Deferred)
 | fnR (f : FuncId) (caps : List (List C))
def A1.up : A1 → A
 | .top => .top
 | .c x => .c x
 | .agg xs => .agg xs
 | .nil => .nil
 | .ptr id off => .ptr id off
 | .own id => .own id
 | .map id => .map id
 | .nilv v => .nilv v
def A1.ids : A1 → List Nat
 | .ptr id _ => [id]
 | .own id => [id]
 | .map id => [id]
 | _ => []
def A1.kill (id : Nat) (a : A1) : A1 := if a.ids.elem id = true then .top else a
inductive O where
 | box (ty : TypeId) (cells : List A)
 | arr (ty : TypeId) (e : Nat) (xs : List (List C))
 | raw (o : Obj)
 | mrow (ty : TypeId) (e : Nat) (xs : List (List C))
 | rows (ty : TypeId) (xs : List A1)
 | map (ents : List (A1 × A1))
 | hole
 | names (o : Option (List (List UInt8)))
 | gone
abbrev Mem := Nat → Option O
def Mem.nil : Mem := fun _ => none
def upd {α : Type} (f : Nat → α) (t : Nat) (x : α) : Nat → α := fun u => if u = t then x else f u
theorem bV {α : Type} (x : α) : ¬ ((none : Option α) = some x) := by simp
def Mem.put (mem : Mem) (id : Nat) : Option O → Mem
 | none => mem
 | some x => upd mem id (some x)
theorem upd_same {α : Type} (f : Nat → α) (t : Nat) (x : α) : upd f t x t = x := by simp [upd]
theorem upd_ne {α : Type} (f : Nat → α) {t u : Nat} (x : α) (h : u ≠ t) : upd f t x u = f u := by simp [upd, h]
def gP : Nat := 140737488351232
inductive RC (w : World) (I : Nat → Nat → Prop) : Value → C → Prop where
 | int {k : IntKind} {n : Int} (h : (Lit.int k n).wf = true) : RC w I (.int k n) (.int k n)
 | bool {b : Bool} : RC w I (.bool b) (.bool b)
 | str {s : ByteArray} (h : s.size ≤ gP) : RC w I (.string s) (.str s)
 | sl {a : Option Addr} {n cap e : Nat} {xs : List (List C)} (f : Nat → Nat → Value) (hn : xs.length = n) (hc : n ≤ cap) (hm : cap ≤ maxLen)
    (hl : ∀ x ∈ xs, x.length = e)
    (ha : ∀ i x, xs[i]? = some x → ∃ b off, a = some ⟨b, off, none⟩ ∧ ∀ j, j < e → I b (off + i * e + j) ∧ w.cell? ⟨b, off + i * e + j, none⟩ = some (f i j))
    (hr : ∀ i j x c, xs[i]? = some x → x[j]? = some c → RC w I (f i j) c) : RC w I (.slice a n cap) (.sl xs)
def RCs (w : World) (I : Nat → Nat → Prop) : List Value → List C → Prop
 | [], [] => True
 | v :: vs, x :: xs => RC w I v x ∧ RCs w I vs xs
 | _, _ => False
structure Ext (w w' : World) (I I' : Nat → Nat → Prop) : Prop where
 more : ∀ b o, I b o → I' b o
 same : ∀ b o, I b o → w'.cell? ⟨b, o, none⟩ = w.cell? ⟨b, o, none⟩
theorem Ext.refl (w : World) (I : Nat → Nat → Prop) : Ext w w I I := ⟨fun _ _ h => h, fun _ _ _ => rfl⟩
theorem Ext.trans {w w1 w2 : World} {I I1 I2 : Nat → Nat → Prop} (h : Ext w w1 I I1) (k : Ext w1 w2 I1 I2) : Ext w w2 I I2 :=
 ⟨fun b o hi => k.more b o (h.more b o hi), fun b o hi => (k.same b o (h.more b o hi)).trans (h.same b o hi)⟩
theorem RC.mono {w w' : World} {I I' : Nat → Nat → Prop} (hE : Ext w w' I I') {v : Value} {x : C} (h : RC w I v x) : RC w' I' v x := by
 induction h with
 | int h => exact .int h
 | bool => exact .bool
 | str h => exact .str h
 | sl f hn hc hm hl ha hr ih =>
   refine .sl f hn hc hm hl (fun i x hi => ?_) ih;obtain ⟨b, off, e1, h2⟩ := ha i x hi;exact ⟨b, off, e1, fun j hj => ⟨hE.more _ _ (h2 j hj).1, (hE.same _ _ (h2 j hj).1).trans (h2 j hj).2⟩⟩
theorem RCs.mono {w w' : World} {I I' : Nat → Nat → Prop} (hE : Ext w w' I I') : ∀ {vs : List Value} {xs : List C}, RCs w I vs xs → RCs w' I' vs xs
 | [], [], _ => trivial
 | _ :: _, _ :: _, h => ⟨h.1.mono hE, RCs.mono hE h.2⟩
theorem RCs.length {w : World} {I : Nat → Nat → Prop} : ∀ {vs : List Value} {xs : List C}, RCs w I vs xs → vs.length = xs.length
 | [], [], _ => rfl
 | _ :: _, _ :: _, h => by simp [RCs.length h.2]
theorem RCs.at {w : World} {I : Nat → Nat → Prop} : ∀ {vs : List Value} {xs : List C}, RCs w I vs xs → ∀ (j : Nat) x, xs[j]? = some x → ∃ v, vs[j]? = some v ∧ RC w I v x
 | [], [], _, j, x, h => by simp at h
 | v :: _, y :: _, h, 0, x, hx => by simp at hx; subst hx; exact ⟨v, rfl, h.1⟩
 | _ :: _, _ :: _, h, j + 1, x, hx => by simpa using RCs.at h.2 j x oD
theorem RCs.of {w : World} {I : Nat → Nat → Prop} : ∀ {vs : List Value} {xs : List C}, vs.length = xs.length → (∀ (j : Nat) v x, vs[j]? = some v → xs[j]? = some x → RC w I v x) → RCs w I vs xs
 | [], [], _, _ => trivial
 | v :: vs, x :: xs, hl, h => ⟨h 0 v x rfl rfl, RCs.of yF fun j v x h1 h2 => h (j + 1) v x DJ (by simpa using h2)⟩
theorem RCs.drop {w : World} {I : Nat → Nat → Prop} : ∀ {vs : List Value} {xs : List C} (k : Nat), RCs w I vs xs → RCs w I (vs.drop k) (xs.drop k)
 | _, _, 0, h => h
 | [], [], _ + 1, _ => trivial
 | _ :: _, _ :: _, k + 1, h => RCs.drop k h.2
theorem RCs.take {w : World} {I : Nat → Nat → Prop} : ∀ {vs : List Value} {xs : List C} (k : Nat), RCs w I vs xs → RCs w I (vs.take k) (xs.take k)
 | _, _, 0, _ => trivial
 | [], [], _ + 1, _ => trivial
 | _ :: _, _ :: _, k + 1, h => ⟨h.1, RCs.take k h.2⟩
theorem RCs.append {w : World} {I : Nat → Nat → Prop} : ∀ {vs us : List Value} {xs ys : List C}, RCs w I vs xs → RCs w I us ys → RCs w I (vs ++ us) (xs ++ ys)
 | [], _, [], _, _, h => h
 | _ :: _, _, _ :: _, _, h, k => ⟨h.1, RCs.append h.2 k⟩
theorem RC.one {w : World} {I : Nat → Nat → Prop} {v : Value} {x : C} (h : RC w I v x) : v.oneCell' = true ∧ v.cells = #[v] := by cases h <;> exact ⟨rfl, rfl⟩
theorem RC.toInt {w : World} {I : Nat → Nat → Prop} {v : Value} {k : IntKind} {n : Int} (h : RC w I v (.int k n)) : v = .int k n ∧ (Lit.int k n).wf = true := by cases h; exact ⟨rfl, by assumption⟩
theorem RC.toBool {w : World} {I : Nat → Nat → Prop} {v : Value} {b : Bool} (h : RC w I v (.bool b)) : v = .bool b := by cases h; rfl
theorem RC.toStr {w : World} {I : Nat → Nat → Prop} {v : Value} {s : ByteArray} (h : RC w I v (.str s)) : v = .string s ∧ s.size ≤ gP := by cases h; exact ⟨rfl, by assumption⟩
def RT (w : World) (I : Nat → Nat → Prop) (v : Value) (x : Bool × List C) : Prop := if x.1 then ∃ us, v = .agg us.toArray ∧ RCs w I us x.2 else ∃ y, x.2 = [y] ∧ RC w I v y
def RTs (w : World) (I : Nat → Nat → Prop) : List Value → List (Bool × List C) → Prop
 | [], [] => True
 | v :: vs, x :: xs => RT w I v x ∧ RTs w I vs xs
 | _, _ => False
theorem RT.mono {w w' : World} {I I' : Nat → Nat → Prop} (hE : Ext w w' I I') {v : Value} {x : Bool × List C} (h : RT w I v x) : RT w' I' v x := by
 unfold RT at *;split
 ·rename_i hx; rw [if_pos hx] at h; obtain ⟨us, h1, h2⟩ := h; exact ⟨us, h1, h2.mono hE⟩
 ·rename_i hx; rw [if_neg hx] at h; obtain ⟨y, h1, h2⟩ := h; exact ⟨y, h1, h2.mono hE⟩
theorem RTs.mono {w w' : World} {I I' : Nat → Nat → Prop} (hE : Ext w w' I I') : ∀ {vs : List Value} {xs : List (Bool × List C)}, RTs w I vs xs → RTs w' I' vs xs
 | [], [], _ => trivial
 | _ :: _, _ :: _, h => ⟨h.1.mono hE, RTs.mono hE h.2⟩
def A.ids : A → List Nat
 | .ptr id _ => [id]
 | .own id => [id]
 | .fn _ ids => ids
 | .pinP _ id _ => [id]
 | .eptr id _ _ _ => [id]
 | .win id _ _ _ => [id]
 | .map id => [id]
 | .tupA xs => xs.flatMap A1.ids
 | .aggA xs => xs.flatMap A1.ids
 | _ => []
def O.ids : O → List Nat
 | .box _ cells => cells.flatMap A.ids
 | .rows _ xs => xs.flatMap A1.ids
 | .map ents => ents.flatMap fun p => p.1.ids ++ p.2.ids
 | _ => []
def A.kill (id : Nat) : A → A
 | .ptr j off => if j = id then .top else .ptr j off
 | .own j => if j = id then .top else .own j
 | .fn f ids => if ids.elem id = true then .top else .fn f ids
 | .pinP v j off => if j = id then .top else .pinP v j off
 | .eptr j e i f => if j = id then .top else .eptr j e i f
 | .win j e lo hi => if j = id then .top else .win j e lo hi
 | .map j => if j = id then .top else .map j
 | .tupA xs => if (xs.flatMap A1.ids).elem id = true then .top else .tupA xs
 | .aggA xs => if (xs.flatMap A1.ids).elem id = true then .top else .aggA xs
 | a => a
def O.kill (id : Nat) : O → O
 | .box ty cells => .box ty (cells.map (A.kill id))
 | .rows ty xs => .rows ty (xs.map (A1.kill id))
 | .map ents => .map (ents.map fun p => (p.1.kill id, p.2.kill id))
 | o => o
def iy (id : Nat) (s : Nat → A) : Nat → A := fun t => (s t).kill id
def fq (id : Nat) (m : Mem) : Mem := fun i => (m i).map (O.kill id)
theorem bB (id : Nat) (s : Nat → A) (t : Nat) : iy id s t = (s t).kill id := rfl
theorem aB (id : Nat) (m : Mem) (i : Nat) : fq id m i = (m i).map (O.kill id) := rfl
theorem A1.dx {id : Nat} {a : A1} : (∀ j ∈ (a.kill id).ids, j ∈ a.ids ∧ j ≠ id) ∧ (a.kill id = .top ∨ (a.kill id = a ∧ id ∉ a.ids)) := by
 unfold A1.kill;split
 ·exact ⟨fun i hi => by simp [A1.ids] at hi, .inl rfl⟩
 ·rename_i h;have h' : id ∉ a.ids := by simpa using h
  exact ⟨fun i hi => ⟨hi, fun e => by subst e; exact h' hi⟩, .inr ⟨rfl, h'⟩⟩
theorem A.dx {id : Nat} {a : A} : (∀ j ∈ (a.kill id).ids, j ∈ a.ids ∧ j ≠ id) ∧ (a.kill id = .top ∨ (a.kill id = a ∧ id ∉ a.ids)) := by
 have one : ∀ {j : Nat} {x y : A}, x.ids = [j] → y = (if j = id then .top else x) → (∀ i ∈ y.ids, i ∈ x.ids ∧ i ≠ id) ∧ (y = .top ∨ (y = x ∧ id ∉ x.ids)) := fun {j x y} hx hy => by
  subst hy;split
  ·exact ES
  ·rename_i h; exact ⟨fun i hi => ⟨hi, fun e => by rw [hx] at hi; simp at hi; exact h (hi.symm.trans e)⟩, .inr ⟨rfl, by rw [hx]; simp; exact fun e => h e.symm⟩⟩
 have many : ∀ {l : List Nat} {x y : A}, x.ids = l → y = (if l.elem id = true then .top else x) → (∀ i ∈ y.ids, i ∈ x.ids ∧ i ≠ id) ∧ (y = .top ∨ (y = x ∧ id ∉ x.ids)) := fun {l x y} hx hy => by
  subst hy;split
  ·exact ES
  ·rename_i h;have h' : id ∉ l := by simpa using h
   exact ⟨fun i hi => ⟨hi, fun e => by subst e; rw [hx] at hi; exact h' hi⟩, .inr ⟨rfl, by rw [hx]; exact h'⟩⟩
 cases a with
 | ptr j off => exact one (x := .ptr j off) rfl rfl
 | own j => exact one (x := .own j) rfl rfl
 | fn f ids => exact many (x := .fn f ids) rfl rfl
 | pinP v j off => exact one (x := .pinP v j off) rfl rfl
 | eptr j e i f => exact one (x := .eptr j e i f) rfl rfl
 | win j e lo hi => exact one (x := .win j e lo hi) rfl rfl
 | map j => exact one (x := .map j) rfl rfl
 | tupA xs => exact many (x := .tupA xs) rfl rfl
 | aggA xs => exact many (x := .aggA xs) rfl rfl
 | _ => exact ⟨fun i hi => by simp [A.kill, A.ids] at hi, .inr ⟨rfl, by simp [A.ids]⟩⟩
def R1 (B : Nat → Value) (w : World) (I : Nat → Nat → Prop) : A1 → Value → Prop
 | .top, _ => True
 | .c x, v => RC w I v x
 | .agg xs, v => ∃ vs, v = .agg vs.toArray ∧ RCs w I vs xs
 | .nil, v => v = .slice none 0 0
 | .ptr id off, v => ∃ b, B id = .pointer (some ⟨b, 0, none⟩) ∧ v = .pointer (some ⟨b, off, none⟩)
 | .own id, v => v = B id ∧ ∃ a n cap, v = .slice a n cap
 | .map id, v => v = B id ∧ ∃ r, v = .map (some r)
 | .nilv u, v => v = u
theorem R1.mono {B B' : Nat → Value} {w w' : World} {I I' : Nat → Nat → Prop} (hE : Ext w w' I I') {a : A1} {v : Value} (hB : ∀ id ∈ a.ids, B' id = B id) (h : R1 B w I a v) : R1 B' w' I' a v := by
 cases a with
 | top => trivial
 | c x => exact RC.mono hE h
 | agg xs => obtain ⟨vs, h1, h2⟩ := h; exact ⟨vs, h1, h2.mono hE⟩
 | nil => exact h
 | ptr id off => obtain ⟨b, h1, h2⟩ := h; exact ⟨b, (hB id (by simp [A1.ids])).trans h1, h2⟩
 | own id => exact ⟨h.1.trans (hB id (by simp [A1.ids])).symm, h.2⟩
 | map id => exact ⟨h.1.trans (hB id (by simp [A1.ids])).symm, h.2⟩
 | nilv u => exact h
def R1s (B : Nat → Value) (w : World) (I : Nat → Nat → Prop) : List A1 → List Value → Prop
 | [], [] => True
 | a :: al, v :: vs => R1 B w I a v ∧ R1s B w I al vs
 | _, _ => False
theorem R1s.mono {B B' : Nat → Value} {w w' : World} {I I' : Nat → Nat → Prop} (hE : Ext w w' I I') : ∀ {al : List A1} {vs : List Value}, (∀ id ∈ al.flatMap A1.ids, B' id = B id) → R1s B w I al vs → R1s B' w' I' al vs
 | [], [], _, _ => trivial
 | a :: al, _ :: _, hB, h => ⟨h.1.mono hE fun id hid => hB id (by simp [hid]), R1s.mono hE (fun id hid => hB id (by simp at hid ⊢; exact .inr hid)) h.2⟩
theorem R1s.length {B : Nat → Value} {w : World} {I : Nat → Nat → Prop} : ∀ {al : List A1} {vs : List Value}, R1s B w I al vs → al.length = vs.length
 | [], [], _ => rfl
 | _ :: _, _ :: _, h => by simp [R1s.length h.2]
theorem R1s.at {B : Nat → Value} {w : World} {I : Nat → Nat → Prop} : ∀ {al : List A1} {vs : List Value}, R1s B w I al vs → ∀ (j : Nat) a, al[j]? = some a → ∃ v, vs[j]? = some v ∧ R1 B w I a v
 | [], [], _, j, x, h => by simp at h
 | _ :: _, v :: _, h, 0, x, hx => by simp at hx; subst hx; exact ⟨v, rfl, h.1⟩
 | _ :: _, _ :: _, h, j + 1, x, hx => by simpa using R1s.at h.2 j x oD
theorem R1s.of {B : Nat → Value} {w : World} {I : Nat → Nat → Prop} : ∀ {al : List A1} {vs : List Value}, al.length = vs.length → (∀ (j : Nat) a v, al[j]? = some a → vs[j]? = some v → R1 B w I a v) → R1s B w I al vs
 | [], [], _, _ => trivial
 | a :: al, v :: vs, hl, h => ⟨h 0 a v rfl rfl, R1s.of yF fun j a v h1 h2 => h (j + 1) a v DJ (by simpa using h2)⟩
def REs (B : Nat → Value) (w : World) (I : Nat → Nat → Prop) : List (A1 × A1) → List MapEntry → Prop
 | [], [] => True
 | p :: l, e :: es => (R1 B w I p.1 e.key ∧ R1 B w I p.2 e.val) ∧ REs B w I l es
 | _, _ => False
theorem REs.mono {B B' : Nat → Value} {w w' : World} {I I' : Nat → Nat → Prop} (hE : Ext w w' I I') : ∀ {l : List (A1 × A1)} {es : List MapEntry}, (∀ id ∈ l.flatMap (fun p => p.1.ids ++ p.2.ids), B' id = B id) → REs B w I l es → REs B' w' I' l es
 | [], [], _, _ => trivial
 | p :: l, e :: es, hB, h => ⟨⟨h.1.1.mono hE fun id hid => hB id (by simp [hid]), h.1.2.mono hE fun id hid => hB id (by simp [hid])⟩, REs.mono hE (fun id hid => hB id (by rw [List.flatMap_cons]; exact List.mem_append_right _ hid)) h.2⟩
def rowAt (w : World) (ty : TypeId) (e : Nat) (v : Value) (n : Nat) (vs : List Value) : Prop :=
 vs.length = n * e ∧ ((v = .slice none 0 0 ∧ n = 0) ∨ ∃ g off cap cur, v = .slice (some ⟨g, off, none⟩) n cap ∧ w.heap[g]? = some (.cells cur ty (0, 0)) ∧ n ≤ cap ∧ cap ≤ maxLen ∧ off + cap * e ≤ cur.size ∧ (cur.toList.drop off).take (n * e) = vs)
theorem rowAt.keep {w w' : World} {ty : TypeId} {e n : Nat} {v : Value} {vs : List Value} (hb : ∀ k, v.ownBlock = some k → w'.heap[k]? = w.heap[k]?) (h : rowAt w ty e v n vs) : rowAt w' ty e v n vs := by
 refine ⟨h.1, ?_⟩;rcases h.2 with k | ⟨g, off, cap, cur, hv, hg, r⟩
 ·exact .inl k
 ·exact .inr ⟨g, off, cap, cur, hv, (hb g (by rw [hv]; rfl)).trans hg, r⟩
def RPs (w : World) (I : Nat → Nat → Prop) : List (List C) → List Value → Prop
 | [], [] => True
 | xs :: l, v :: vs => (∃ b off us, v = .pointer (some ⟨b, off, none⟩) ∧ RCs w I us xs ∧ ∀ j x, us[j]? = some x → I b (off + j) ∧ w.cell? ⟨b, off + j, none⟩ = some x) ∧ RPs w I l vs
 | _, _ => False
theorem RPs.mono {w w' : World} {I I' : Nat → Nat → Prop} (hE : Ext w w' I I') : ∀ {l : List (List C)} {vs : List Value}, RPs w I l vs → RPs w' I' l vs
 | [], [], _ => trivial
 | _ :: _, _ :: _, ⟨⟨b, off, us, h1, h2, h3⟩, h⟩ => ⟨⟨b, off, us, h1, h2.mono hE, fun j x hj => ⟨hE.more _ _ (h3 j x hj).1, (hE.same _ _ (h3 j x hj).1).trans (h3 j x hj).2⟩⟩, h.mono hE⟩
def RV (B : Nat → Value) (w : World) (I : Nat → Nat → Prop) : A → Value → Prop
 | .top, _ => True
 | .undef, v => v = Go.undef
 | .c x, v => RC w I v x
 | .agg xs, v => ∃ vs, v = .agg vs.toArray ∧ RCs w I vs xs
 | .nil, v => v = .slice none 0 0
 | .ptr id off, v => ∃ b, B id = .pointer (some ⟨b, 0, none⟩) ∧ v = .pointer (some ⟨b, off, none⟩)
 | .rptr xs, v => ∃ b off vs, v = .pointer (some ⟨b, off, none⟩) ∧ RCs w I vs xs ∧ ∀ j x, vs[j]? = some x → I b (off + j) ∧ w.cell? ⟨b, off + j, none⟩ = some x
 | .own id, v => v = B id ∧ ∃ a n cap, v = .slice a n cap
 | .fn f ids, v => v = .func (.func f) #[] (ids.map B).toArray
 | .tup xs, v => ∃ vs, v = .tuple vs.toArray ∧ RTs w I vs xs
 | .pinP u id off, _ => ∃ b, B id = .pointer (some ⟨b, 0, none⟩) ∧ u = .pointer (some ⟨b, off, none⟩)
 | .pinC u x, _ => RC w I u x
 | .pinG u xs, _ => ∃ vs, u = .agg vs.toArray ∧ RCs w I vs xs
 | .eptr id e i f, v => ∃ b off n cap, B id = .slice (some ⟨b, off, none⟩) n cap ∧ v = .pointer (some ⟨b, off + i * e + f, none⟩)
 | .win id e lo hi, v => ∃ ad n cap, B id = .slice ad n cap ∧ lo ≤ hi ∧ hi ≤ cap ∧ v = .slice (if cap = lo then ad else ad.map (·.add (lo * e))) (hi - lo) (cap - lo)
 | .map id, v => v = B id ∧ ∃ r, v = .map (some r)
 | .nilv u, v => v = u
 | .ifc t x, v => ∃ u, v = .iface t u ∧ RT w I u x
 | .tupA xs, v => ∃ vs, v = .tuple vs.toArray ∧ R1s B w I xs vs
 | .aggA xs, v => ∃ vs, v = .agg vs.toArray ∧ R1s B w I xs vs ∧ ∀ u ∈ vs, u.oneCell' = true
 | .nn xs, v => RC w I v (.sl xs) ∧ ∃ a n cap, v = .slice (some a) n cap
 | .defs _, _ => True
 | .fnR f caps, v => ∃ ps, v = .func (.func f) #[] ps.toArray ∧ RPs w I caps ps
theorem F4 {B : Nat → Value} {w : World} {I : Nat → Nat → Prop} {a : A1} {v : Value} : RV B w I a.up v ↔ R1 B w I a v := by cases a <;> exact Iff.rfl
theorem xQ (a : A1) : a.up.ids = a.ids := by cases a <;> rfl
theorem RV.mono {B B' : Nat → Value} {w w' : World} {I I' : Nat → Nat → Prop} (hE : Ext w w' I I') {a : A} {v : Value} (hB : ∀ id ∈ a.ids, B' id = B id) (h : RV B w I a v) : RV B' w' I' a v := by
 cases a with
 | top => trivial
 | undef => exact h
 | c x => exact RC.mono hE h
 | agg xs => obtain ⟨vs, h1, h2⟩ := h; exact ⟨vs, h1, h2.mono hE⟩
 | nil => exact h
 | ptr id off => obtain ⟨b, h1, h2⟩ := h; exact ⟨b, (hB id (by simp [A.ids])).trans h1, h2⟩
 | rptr xs =>
   obtain ⟨b, off, vs, h1, h2, h3⟩ := h;exact ⟨b, off, vs, h1, h2.mono hE, fun j x hj => ⟨hE.more _ _ (h3 j x hj).1, (hE.same _ _ (h3 j x hj).1).trans (h3 j x hj).2⟩⟩
 | own id => exact ⟨h.1.trans (hB id (by simp [A.ids])).symm, h.2⟩
 | fn f ids =>
   have : ids.map B' = ids.map B := List.map_congr_left fun id hid => hB id (by simpa [A.ids] using hid)
   show v = _;rw [this]; exact h
 | tup xs => obtain ⟨vs, h1, h2⟩ := h; exact ⟨vs, h1, h2.mono hE⟩
 | pinP u id off => obtain ⟨b, h1, h2⟩ := h; exact ⟨b, (hB id (by simp [A.ids])).trans h1, h2⟩
 | pinC u x => exact RC.mono hE h
 | pinG u xs => obtain ⟨vs, h1, h2⟩ := h; exact ⟨vs, h1, h2.mono hE⟩
 | eptr id e i f => obtain ⟨b, off, n, cap, h1, h2⟩ := h; exact ⟨b, off, n, cap, (hB id (by simp [A.ids])).trans h1, h2⟩
 | win id e lo hi => obtain ⟨ad, n, cap, h1, h2⟩ := h; exact ⟨ad, n, cap, (hB id (by simp [A.ids])).trans h1, h2⟩
 | map id => exact ⟨h.1.trans (hB id (by simp [A.ids])).symm, h.2⟩
 | nilv u => exact h
 | ifc t x => obtain ⟨u, h1, h2⟩ := h; exact ⟨u, h1, h2.mono hE⟩
 | tupA xs => obtain ⟨vs, h1, h2⟩ := h; exact ⟨vs, h1, h2.mono hE hB⟩
 | aggA xs => obtain ⟨vs, h1, h2, h3⟩ := h; exact ⟨vs, h1, h2.mono hE hB, h3⟩
 | nn xs => exact ⟨RC.mono hE h.1, h.2⟩
 | defs l => trivial
 | fnR f caps => obtain ⟨ps, h1, h2⟩ := h; exact ⟨ps, h1, h2.mono hE⟩
def RVs (B : Nat → Value) (w : World) (I : Nat → Nat → Prop) : List A → List Value → Prop
 | [], [] => True
 | a :: al, v :: vs => (RV B w I a v ∧ v.oneCell' = true) ∧ RVs B w I al vs
 | _, _ => False
theorem RVs.mono {B B' : Nat → Value} {w w' : World} {I I' : Nat → Nat → Prop} (hE : Ext w w' I I') : ∀ {al : List A} {vs : List Value}, (∀ id ∈ al.flatMap A.ids, B' id = B id) → RVs B w I al vs → RVs B' w' I' al vs
 | [], [], _, _ => trivial
 | a :: al, _ :: _, hB, h => ⟨⟨h.1.1.mono hE fun id hid => hB id (by simp [hid]), h.1.2⟩, RVs.mono hE (fun id hid => hB id (by simp at hid ⊢; exact .inr hid)) h.2⟩
theorem RVs.length {B : Nat → Value} {w : World} {I : Nat → Nat → Prop} : ∀ {al : List A} {vs : List Value}, RVs B w I al vs → al.length = vs.length
 | [], [], _ => rfl
 | _ :: _, _ :: _, h => by simp [RVs.length h.2]
theorem RVs.at {B : Nat → Value} {w : World} {I : Nat → Nat → Prop} : ∀ {al : List A} {vs : List Value}, RVs B w I al vs → ∀ (j : Nat) a, al[j]? = some a → ∃ v, vs[j]? = some v ∧ RV B w I a v ∧ v.oneCell' = true
 | [], [], _, j, x, h => by simp at h
 | _ :: _, v :: _, h, 0, x, hx => by simp at hx; subst hx; exact ⟨v, rfl, h.1⟩
 | _ :: _, _ :: _, h, j + 1, x, hx => by simpa using RVs.at h.2 j x oD
theorem RVs.of {B : Nat → Value} {w : World} {I : Nat → Nat → Prop} : ∀ {al : List A} {vs : List Value}, al.length = vs.length → (∀ (j : Nat) a v, al[j]? = some a → vs[j]? = some v → RV B w I a v ∧ v.oneCell' = true) → RVs B w I al vs
 | [], [], _, _ => trivial
 | a :: al, v :: vs, hl, h => ⟨h 0 a v rfl rfl, RVs.of yF fun j a v h1 h2 => h (j + 1) a v DJ (by simpa using h2)⟩
theorem RVs.drop {B : Nat → Value} {w : World} {I : Nat → Nat → Prop} : ∀ {al : List A} {vs : List Value} (k : Nat), RVs B w I al vs → RVs B w I (al.drop k) (vs.drop k)
 | _, _, 0, h => h
 | [], [], _ + 1, _ => trivial
 | _ :: _, _ :: _, k + 1, h => RVs.drop k h.2
theorem RVs.ofData {B : Nat → Value} {w : World} {I : Nat → Nat → Prop} : ∀ {vs : List Value} {xs : List C}, RCs w I vs xs → RVs B w I (xs.map A.c) vs
 | [], [], _ => trivial
 | _ :: _, _ :: _, h => ⟨⟨h.1, h.1.one.1⟩, RVs.ofData h.2⟩
def flat (xs : List (List C)) : List C := xs.flatten
structure NM (es : Array MapEntry) (clock : Nat) (o : Option (List (List UInt8))) : Prop where
 stamped : MapKept.Stamped es clock
 each : ∀ e ∈ es.toList, ∃ s : ByteArray, e.key = .string s ∧ s.size ≤ gP ∧ e.val = .int .i64 1
 told : ∀ L, o = some L → ∀ s : ByteArray, (∃ e ∈ es.toList, e.key = .string s) ↔ s.data.toList ∈ L
def RO (B : Nat → Value) (w : World) (I : Nat → Nat → Prop) (id : Nat) : O → Prop
 | .box ty cells => ∃ b vs, B id = .pointer (some ⟨b, 0, none⟩) ∧ w.heap[b]? = some (.cells (List.toArray vs) ty) ∧ RVs B w I cells vs ∧ ∀ o, ¬ I b o
 | .arr ty e xs => ∃ vs, w.ownsRow 0 ty e (B id) xs.length vs ∧ RCs w I vs (flat xs) ∧ (∀ x ∈ xs, x.length = e) ∧ ∀ b, (B id).ownBlock = some b → ∀ o, (I b o ↔ o < xs.length * e)
 | .raw o => ∃ b, B id = .pointer (some ⟨b, 0, none⟩) ∧ w.heap[b]? = some o ∧ ∀ p, ¬ I b p
 | .mrow ty e xs => ∃ vs, rowAt w ty e (B id) xs.length vs ∧ RCs w I vs (flat xs) ∧ (∀ x ∈ xs, x.length = e) ∧ ∀ b, (B id).ownBlock = some b → ∀ o, ¬ I b o
 | .rows ty xs => ∃ vs, rowAt w ty 1 (B id) xs.length vs ∧ R1s B w I xs vs ∧ (∀ v ∈ vs, v.oneCell' = true) ∧ ∀ b, (B id).ownBlock = some b → ∀ o, ¬ I b o
 | .map ents => ∃ r es clock, B id = .map (some r) ∧ w.heap[r]? = some (.map es clock) ∧ REs B w I ents es.toList ∧ ∀ o, ¬ I r o
 | .hole => ∃ b, B id = .pointer (some ⟨b, 0, none⟩) ∧ ∀ p, ¬ I b p
 | .names o => ∃ r es clock, B id = .map (some r) ∧ w.heap[r]? = some (.map es clock) ∧ NM es clock o ∧ ∀ p, ¬ I r p
 | .gone => True
def foot (B : Nat → Value) (id : Nat) : O → Nat → Prop
 | .box .., k => ∃ off, B id = .pointer (some ⟨k, off, none⟩)
 | .arr .., k => (B id).ownBlock = some k
 | .raw _, k => ∃ off, B id = .pointer (some ⟨k, off, none⟩)
 | .mrow .., k => (B id).ownBlock = some k
 | .rows .., k => (B id).ownBlock = some k
 | .map _, k => B id = .map (some k)
 | .hole, k => ∃ off, B id = .pointer (some ⟨k, off, none⟩)
 | .names _, k => B id = .map (some k)
 | .gone, _ => False
structure MR (w0 : World) (I0 : Nat → Nat → Prop) (B : Nat → Value) (I : Nat → Nat → Prop) (mem : Mem) (w : World) : Prop where
 below : Below w0.heap.size w0 w
 glob : rz w0
 base : ∀ b o, I0 b o → I b o
 old : ∀ b o, I b o → I0 b o ∨ w0.heap.size ≤ b
 there : ∀ b o, I b o → b < w.heap.size
 objs : ∀ id o, mem id = some o → RO B w I id o
 low : ∀ id o, mem id = some o → ∀ k, foot B id o k → w0.heap.size ≤ k ∧ k < w.heap.size
 apart : ∀ id o id' o', mem id = some o → mem id' = some o' → id ≠ id' → ∀ k, foot B id o k → ¬ foot B id' o' k
 live : ∀ id o, mem id = some o → ∀ j ∈ o.ids, (mem j).isSome = true
theorem RO.mono {B B' : Nat → Value} {w w' : World} {I I' : Nat → Nat → Prop} {id : Nat} {o : O} (hE : Ext w w' I I') (hid : B' id = B id) (hB : ∀ j ∈ o.ids, B' j = B j)
 (hb : ∀ k, foot B id o k → w'.heap[k]? = w.heap[k]?) (hI2 : ∀ k, foot B id o k → ∀ p, I' k p → I k p) (h : RO B w I id o) : RO B' w' I' id o := by
 cases o with
 | box ty cells =>
   obtain ⟨b, vs, h1, h2, h3, h4⟩ := h;have hf : foot B id (.box ty cells) b := ⟨0, h1⟩;exact ⟨b, vs, hid.trans h1, (hb b hf).trans h2, h3.mono hE hB, fun p hp => h4 p (hI2 b hf p hp)⟩
 | arr ty e xs =>
   obtain ⟨vs, h1, h2, h3, h4⟩ := h;refine ⟨vs, ?_, h2.mono hE, h3, fun b hb' p => ?_⟩
   ·rw [hid];refine ⟨h1.1, ?_⟩;rcases h1.2 with k | ⟨g, cap, cur, hv, hg, hh, r⟩
    ·exact .inl k
    ·exact .inr ⟨g, cap, cur, hv, hg, (hb g (by show Value.ownBlock _ = _; rw [hv]; rfl)).trans hh, r⟩
   ·rw [hid] at hb';exact ⟨fun hp => (h4 b hb' p).1 (hI2 b hb' p hp), fun hp => hE.more _ _ ((h4 b hb' p).2 hp)⟩
 | raw x =>
   obtain ⟨b, h1, h2, h3⟩ := h;exact ⟨b, hid.trans h1, (hb b ⟨0, h1⟩).trans h2, fun p hp => h3 p (hI2 b ⟨0, h1⟩ p hp)⟩
 | mrow ty e xs =>
   obtain ⟨vs, h1, h2, h3, h4⟩ := h;refine ⟨vs, ?_, h2.mono hE, h3, fun b hb' p hp => ?_⟩
   ·rw [hid]; exact h1.keep hb
   ·exact SH
 | rows ty xs =>
   obtain ⟨vs, h1, h2, h3, h4⟩ := h;refine ⟨vs, ?_, h2.mono hE hB, h3, fun b hb' p hp => ?_⟩
   ·rw [hid]; exact h1.keep hb
   ·exact SH
 | map ents =>
   obtain ⟨r, es, clock, h1, h2, h3, h4⟩ := h;exact ⟨r, es, clock, hid.trans h1, (hb r h1).trans h2, h3.mono hE hB, fun p hp => h4 p (hI2 r h1 p hp)⟩
 | hole =>
   obtain ⟨b, h1, h3⟩ := h;exact ⟨b, hid.trans h1, fun p hp => h3 p (hI2 b ⟨0, h1⟩ p hp)⟩
 | names o =>
   obtain ⟨r, es, clock, h1, h2, h3, h4⟩ := h;exact ⟨r, es, clock, hid.trans h1, (hb r h1).trans h2, h3, fun p hp => h4 p (hI2 r h1 p hp)⟩
 | gone => trivial
theorem pO {B B' : Nat → Value} {id : Nat} {o : O} {k : Nat} (h : B' id = B id) : foot B' id o k ↔ foot B id o k := by
 cases o <;> simp [foot, h]
section
variable {w0 w w' : World} {I0 I I' : Nat → Nat → Prop} {B B' : Nat → Value} {mem : Mem}
theorem MR.ext (h : MR w0 I0 B I mem w) (hb : Below w.heap.size w w') (hI : ∀ b o, I b o → I' b o) : Ext w w' I I' :=
 ⟨hI, fun b o ho => hb.cell (p := ⟨b, o, none⟩) (h.there b o ho)⟩
theorem MR.grow (h : MR w0 I0 B I mem w) (hb : Below w.heap.size w w') (hI : ∀ b o, I b o → I' b o) (hn : ∀ b o, I' b o → I b o ∨ (w.heap.size ≤ b ∧ b < w'.heap.size)) : MR w0 I0 B I' mem w' := by
 refine ⟨h.below.trans (hb.mono h.below.size), h.glob, fun b o hi => hI b o (h.base b o hi), fun b o hi => ?_, fun b o hi => ?_, fun id o ho => ?_, fun id o ho k hk => ?_, h.apart, h.live⟩
 ·rcases hn b o hi with k | ⟨k, -⟩
  ·exact h.old b o k
  ·exact .inr (Nat.le_trans h.below.size k)
 ·rcases hn b o hi with k | ⟨-, k⟩
  ·exact Nat.lt_of_lt_of_le (h.there b o k) hb.size
  ·exact k
 ·refine RO.mono (h.ext hb hI) rfl (fun _ _ => rfl) (fun k hk => hb.block k (h.low id o ho k hk).2) (fun k hk p hp => ?_) (h.objs id o ho);rcases hn k p hp with q | ⟨q, -⟩
  ·exact q
  ·have := (h.low id o ho k hk).2; omega
 ·have := h.low id o ho k hk; have := hb.size; omega
theorem MR.zA (h : MR w0 I0 B I mem w) : rz w := h.glob.keep h.below
theorem MR.call (h : MR w0 I0 B I mem w) (hb : Below w.heap.size w w') : MR w0 I0 B I mem w' := h.grow hb (fun _ _ k => k) (fun _ _ k => .inl k)
theorem MR.alloc (h : MR w0 I0 B I mem w) {id : Nat} (hid : mem id = none) {o : O} {v : Value} {x : Obj} (hob : RO (upd B id v) (w.alloc x) I id o) (hf : ∀ k, foot (upd B id v) id o k → k = w.heap.size) (hl : ∀ j ∈ o.ids, (mem j).isSome = true) :
 MR w0 I0 (upd B id v) I (upd mem id (some o)) (w.alloc x) := by
 have hb : Below w.heap.size w (w.alloc x) := (Below.refl _ _).alloc (Nat.le_refl _) _
 have h' := h.call hb
 have keep : ∀ j, (mem j).isSome = true → upd B id v j = B j := fun j hj => upd_ne _ _ (fun e => by subst e; simp [hid] at hj)
 have liv : ∀ j, (mem j).isSome = true → (upd mem id (some o) j).isSome = true := fun j hj => by
  unfold upd; split
  ·rfl
  ·exact hj
 have far : ∀ {i : Nat} {x : O}, mem i = some x → ∀ {q : Nat}, foot (upd B id v) i x q → q ≠ w.heap.size := fun {i x} hx {q} hq e => by
  have hs : (mem i).isSome = true := by simp [hx]
  have := (h.low i x hx q ((pO (keep i hs)).1 hq)).2; omega
 refine ⟨h'.below, h'.glob, h'.base, h'.old, h'.there, fun j y ho => ?_, fun j y ho k hk => ?_, fun j y j' y' ho ho' hne k hk hk' => ?_, fun j y ho i hi => ?_⟩
 ·unfold upd at ho
  split at ho
  ·rename_i e; subst e
   cases ho
   exact hob
  ·have hs : (mem j).isSome = true := by simp [ho]
   exact RO.mono (Ext.refl _ _) (keep j hs) (fun i hi => keep i (h.live j y ho i hi)) (fun _ _ => rfl) (fun _ _ _ hp => hp) (h'.objs j y ho)
 ·unfold upd at ho
  split at ho
  ·rename_i e; subst e
   cases ho
   rw [hf k hk]
   exact ⟨h.below.size, by simp⟩
  ·have hs : (mem j).isSome = true := by simp [ho]
   exact h'.low j y ho k ((pO (keep j hs)).1 hk)
 ·unfold upd at ho ho'
  split at ho <;> split at ho'
  ·rename_i e e'; exact hne (e.trans e'.symm)
  ·rename_i e e'; subst e; cases ho; exact far ho' hk' (hf k hk)
  ·rename_i e e'; subst e'; cases ho'; exact far ho hk (hf k hk')
  ·have hs : (mem j).isSome = true := by simp [ho]
   have hs' : (mem j').isSome = true := by simp [ho']
   exact h.apart j y j' y' ho ho' hne k ((pO (keep j hs)).1 hk) ((pO (keep j' hs')).1 hk')
 ·unfold upd at ho
  split at ho
  ·cases ho; exact liv i (hl i hi)
  ·exact liv i (h.live j y ho i hi)
theorem MR.box (h : MR w0 I0 B I mem w) {id : Nat} (hid : mem id = none) {ty : TypeId} {cells : List A} {vs : List Value} (hv : RVs B w I cells vs) (hl : ∀ j ∈ cells.flatMap A.ids, (mem j).isSome = true) :
 MR w0 I0 (upd B id (.pointer (some ⟨w.heap.size, 0, none⟩))) I (upd mem id (some (.box ty cells))) (w.alloc (.cells vs.toArray ty)) := by
 have hb : Below w.heap.size w (w.alloc (.cells vs.toArray ty)) := (Below.refl _ _).alloc (Nat.le_refl _) _
 refine h.alloc hid ⟨w.heap.size, vs, upd_same .., heap_alloc_new _ _, hv.mono (h.ext hb (fun _ _ k => k)) (fun i hi => upd_ne _ _ (fun e => by subst e; have := hl i hi; simp [hid] at this)), fun p hp => ?_⟩ (fun k hk => ?_) hl
 ·have := h.there _ _ hp; omega
 ·obtain ⟨off, hk⟩ := hk
  rw [upd_same] at hk
  cases hk; rfl
theorem MR.turn (h : MR w0 I0 B I mem w) {j b : Nat} {o o' : O} (hj : mem j = some o) (hf : foot B j o b) (hf' : ∀ k, foot B j o' k → k = b) (hI : ∀ p, ¬ I b p) (h1 : w'.os = w.os) (h2 : w'.tape = w.tape) (h3 : w'.output = w.output) (h4 : w'.heap.size = w.heap.size)
 (h5 : ∀ k, k ≠ b → w'.heap[k]? = w.heap[k]?) (hl : ∀ i ∈ o'.ids, (mem i).isSome = true) (hn : Ext w w' I I → RO B w' I j o') : MR w0 I0 B I (upd mem j (some o')) w' ∧ Ext w w' I I := by
 have hbl := h.low j _ hj b hf
 have hE : Ext w w' I I := ⟨fun _ _ k => k, fun b' o ho => World.cell?_of_block (w := w) (h5 b' (fun e => by subst e; exact hI o ho))⟩
 have liv : ∀ i, (mem i).isSome = true → (upd mem j (some o') i).isSome = true := fun i hi => by
  exact Kk
 have same : ∀ {i : Nat} {x : O} {q : Nat}, upd mem j (some o') i = some x → foot B i x q → ∃ y, mem i = some y ∧ foot B i y q := fun {i x q} hx hq => by
  by_cases e : i = j
  ·subst e;have : x = o' := by simpa [upd] using hx.symm
   subst this;exact ⟨_, hj, by rw [hf' q hq]; exact hf⟩
  ·exact ⟨x, by simpa [upd, e] using hx, hq⟩
 refine ⟨⟨h.below.trans ⟨h1, h2, h3, by omega, fun k hk => h5 k (by omega)⟩, h.glob, h.base, h.old, fun b' o ho => by rw [h4]; exact h.there b' o ho, fun id o ho => ?_, fun id o ho k hk => ?_, fun id x id' x' ho ho' hne k hk hk' => ?_, fun id x ho i hi => ?_⟩, hE⟩
 ·by_cases e : id = j
  ·subst e
   have : o = o' := by simpa [upd] using ho.symm
   subst this
   exact hn hE
  ·have ho : mem id = some o := by simpa [upd, e] using ho
   exact RO.mono hE rfl (fun _ _ => rfl) (fun k hk => h5 k (fun e' => by subst e'; exact h.apart id o j _ ho hj e k hk hf)) (fun _ _ _ hp => hp) (h.objs id o ho)
 ·rw [h4]
  obtain ⟨y, hy, hq⟩ := same ho hk
  exact h.low id y hy k hq
 ·obtain ⟨y, hy, hq⟩ := same ho hk
  obtain ⟨y', hy', hq'⟩ := same ho' hk'
  exact h.apart id y id' y' hy hy' hne k hq hq'
 ·refine liv i ?_
  by_cases e : id = j
  ·subst e
   have : x = o' := by simpa [upd] using ho.symm
   subst this
   exact hl i hi
  ·exact h.live id x Po i hi
end
theorem RVs.kill {B B' : Nat → Value} {w w' : World} {I I' : Nat → Nat → Prop} (hE : Ext w w' I I') {id : Nat} : ∀ {al : List A} {vs : List Value}, (∀ j ∈ al.flatMap A.ids, j ≠ id → B' j = B j) → RVs B w I al vs → RVs B' w' I' (al.map (A.kill id)) vs
 | [], [], _, _ => trivial
 | a :: al, v :: vs, hB, h => by
   refine ⟨⟨?_, h.1.2⟩, RVs.kill hE (fun j hj => hB j (by simp at hj ⊢; exact .inr hj)) h.2⟩;rcases (A.dx (id := id) (a := a)).2 with e | ⟨e, hn⟩
   ·rw [e]; trivial
   ·rw [e];exact h.1.1.mono hE fun j hj => hB j (by simp [hj]) (fun e => hn (e ▸ hj))
theorem R1s.kill {B B' : Nat → Value} {w w' : World} {I I' : Nat → Nat → Prop} (hE : Ext w w' I I') {id : Nat} : ∀ {al : List A1} {vs : List Value}, (∀ j ∈ al.flatMap A1.ids, j ≠ id → B' j = B j) → R1s B w I al vs → R1s B' w' I' (al.map (A1.kill id)) vs
 | [], [], _, _ => trivial
 | a :: al, v :: vs, hB, h => by
   refine ⟨?_, R1s.kill hE (fun j hj => hB j (by simp at hj ⊢; exact .inr hj)) h.2⟩;rcases (A1.dx (id := id) (a := a)).2 with e | ⟨e, hn⟩
   ·rw [e]; trivial
   ·rw [e];exact h.1.mono hE fun j hj => hB j (by simp [hj]) (fun e => hn (e ▸ hj))
theorem REs.kill {B B' : Nat → Value} {w w' : World} {I I' : Nat → Nat → Prop} (hE : Ext w w' I I') {id : Nat} : ∀ {l : List (A1 × A1)} {es : List MapEntry}, (∀ j ∈ l.flatMap (fun p => p.1.ids ++ p.2.ids), j ≠ id → B' j = B j) → REs B w I l es → REs B' w' I' (l.map fun p => (p.1.kill id, p.2.kill id)) es
 | [], [], _, _ => trivial
 | p :: l, e :: es, hB, h => by
   have one : ∀ {a : A1} {v : Value}, (∀ j ∈ a.ids, j ≠ id → B' j = B j) → R1 B w I a v → R1 B' w' I' (a.kill id) v := fun {a v} hb hr => by
    rcases (A1.dx (id := id) (a := a)).2 with e | ⟨e, hn⟩
    ·rw [e]; trivial
    ·rw [e];exact hr.mono hE fun j hj => hb j hj (fun e => hn (e ▸ hj))
   exact ⟨⟨one (fun j hj => hB j (by simp [hj])) h.1.1, one (fun j hj => hB j (by simp [hj])) h.1.2⟩, REs.kill hE (fun j hj => hB j (by rw [List.flatMap_cons]; exact List.mem_append_right _ hj)) h.2⟩
theorem O.dx {id : Nat} {o : O} : ∀ i ∈ (O.kill id o).ids, i ∈ o.ids := by
 intro i hi;cases o with
 | box ty cells =>
   simp only [O.kill, O.ids, List.mem_flatMap, List.mem_map] at hi;obtain ⟨_, ⟨a, ha, rfl⟩, hi⟩ := hi;exact List.mem_flatMap.2 ⟨a, ha, (A.dx.1 i hi).1⟩
 | rows ty xs =>
   simp only [O.kill, O.ids, List.mem_flatMap, List.mem_map] at hi;obtain ⟨_, ⟨a, ha, rfl⟩, hi⟩ := hi;exact List.mem_flatMap.2 ⟨a, ha, (A1.dx.1 i hi).1⟩
 | map ents =>
   simp only [O.kill, O.ids, List.mem_flatMap, List.mem_map] at hi;obtain ⟨_, ⟨a, ha, rfl⟩, hi⟩ := hi;refine List.mem_flatMap.2 ⟨a, ha, ?_⟩;rw [List.mem_append] at hi ⊢;exact hi.imp (fun h => (A1.dx.1 i h).1) (fun h => (A1.dx.1 i h).1)
 | _ => exact hi
theorem sI {B B' : Nat → Value} {id j : Nat} {o : O} {k : Nat} (h : B' j = B j) : foot B' j (O.kill id o) k ↔ foot B j o k := by
 cases o <;> simp [foot, O.kill, h]
theorem RO.kill {B B' : Nat → Value} {w w' : World} {I I' : Nat → Nat → Prop} {id j : Nat} {o : O} (hE : Ext w w' I I') (hid : B' j = B j) (hB : ∀ i, i ≠ id → B' i = B i)
 (hb : ∀ k, foot B j o k → w'.heap[k]? = w.heap[k]?) (hI2 : ∀ k, foot B j o k → ∀ p, I' k p → I k p) (h : RO B w I j o) : RO B' w' I' j (O.kill id o) := by
 cases o with
 | box ty cells =>
   obtain ⟨b, vs, h1, h2, h3, h4⟩ := h;have hf : foot B j (.box ty cells) b := ⟨0, h1⟩;exact ⟨b, vs, hid.trans h1, (hb b hf).trans h2, h3.kill hE (fun i _ hi => hB i hi), fun p hp => h4 p (hI2 b hf p hp)⟩
 | rows ty xs =>
   obtain ⟨vs, h1, h2, h3, h4⟩ := h;refine ⟨vs, ?_, h2.kill hE (fun i _ hi => hB i hi), h3, fun b hb' p hp => ?_⟩
   ·rw [hid, List.length_map]; exact h1.keep hb
   ·exact SH
 | map ents =>
   obtain ⟨r, es, clock, h1, h2, h3, h4⟩ := h;exact ⟨r, es, clock, hid.trans h1, (hb r h1).trans h2, h3.kill hE (fun i _ hi => hB i hi), fun p hp => h4 p (hI2 r h1 p hp)⟩
 | arr ty e xs => exact RO.mono hE hid (fun i hi => absurd hi Gm) hb hI2 h
 | raw x => exact RO.mono hE hid (fun i hi => absurd hi Gm) hb hI2 h
 | mrow ty e xs => exact RO.mono hE hid (fun i hi => absurd hi Gm) hb hI2 h
 | hole => exact RO.mono hE hid (fun i hi => absurd hi Gm) hb hI2 h
 | names o => exact RO.mono hE hid (fun i hi => absurd hi Gm) hb hI2 h
 | gone => trivial
theorem MR.EZ {w0 w w' : World} {I0 I I' : Nat → Nat → Prop} {B : Nat → Value} {m : Mem} (h : MR w0 I0 B I m w) {id : Nat} {o0 o' : O} {v' : Value} (hid : m id = some o0) (h1 : w'.os = w.os) (h2 : w'.tape = w.tape) (h3 : w'.output = w.output) (hsize : w.heap.size ≤ w'.heap.size)
 (hkeep : ∀ b, b < w.heap.size → ¬ foot B id o0 b → w'.heap[b]? = w.heap[b]?) (hnew : ∀ k, foot (upd B id v') id o' k → k < w'.heap.size ∧ (foot B id o0 k ∨ w.heap.size ≤ k)) (hE : Ext w w' I I')
 (hI' : ∀ b p, I' b p → I b p ∨ foot (upd B id v') id o' b) (hob : RO (upd B id v') w' I' id o') (hl : ∀ i ∈ o'.ids, (m i).isSome = true) :
 MR w0 I0 (upd B id v') I' (upd (fq id m) id (some o')) w' := by
 have hlow := h.low id _ hid
 have hbel : Below w0.heap.size w0 w' := h.below.trans ⟨h1, h2, h3, hsize, fun b hb => hkeep b (Nat.lt_of_lt_of_le hb h.below.size) (fun e => by have := (hlow b e).1; omega)⟩
 have hBne : ∀ j, j ≠ id → upd B id v' j = B j := fun j hj => upd_ne _ _ hj
 have other : ∀ {j : Nat} {z : O}, upd (fq id m) id (some o') j = some z → (j = id ∧ z = o') ∨ (j ≠ id ∧ ∃ o, m j = some o ∧ z = O.kill id o) := fun {j z} hz => by
  unfold upd at hz;split at hz
  ·exact Tt
  ·rename_i e';have hz : (m j).map (O.kill id) = some z := hz;cases hj : m j with
   | none => rw [hj] at hz; cases hz
   | some o => rw [hj] at hz; exact .inr ⟨e', o, rfl, (Option.some.inj hz).symm⟩
 have footk : ∀ {j : Nat} {o : O} {k : Nat}, j ≠ id → (foot (upd B id v') j (O.kill id o) k ↔ foot B j o k) := fun {j o k} hj => sI (hBne j hj)
 have far : ∀ {j : Nat} {o : O} {k : Nat}, j ≠ id → m j = some o → foot B j o k → ¬ foot B id o0 k ∧ ¬ foot (upd B id v') id o' k := fun {j o k} hj ho hk => by
  have a1 : ¬ foot B id o0 k := fun e1 => h.apart j o id _ ho hid hj k hk e1
  refine ⟨a1, fun e1 => ?_⟩;rcases (hnew k e1).2 with q | q
  ·exact a1 q
  ·have := (h.low j o ho k hk).2; omega
 have hlv : ∀ i, (m i).isSome = true → (upd (fq id m) id (some o') i).isSome = true := fun i hi => by
  exact Uw
 refine ⟨hbel, h.glob, fun b o ho => hE.more _ _ (h.base b o ho), fun b o ho => ?_, fun b o ho => ?_, fun j z hz => ?_, fun j z hz k hk => ?_, fun j z j' z' hz hz' hne k hk hk' => ?_, fun j z hz i hi => ?_⟩
 ·rcases hI' b o ho with ho | ho
  ·exact h.old b o ho
  ·rcases (hnew b ho).2 with q | q
   ·exact .inr (hlow b q).1
   ·exact .inr (Nat.le_trans h.below.size q)
 ·rcases hI' b o ho with ho | ho
  ·exact Nat.lt_of_lt_of_le (h.there b o ho) hsize
  ·exact (hnew b ho).1
 ·rcases other hz with ⟨rfl, rfl⟩ | ⟨hj, o, ho, rfl⟩
  ·exact hob
  ·exact RO.kill hE (hBne j hj) hBne (fun k hk => hkeep k (h.low j o ho k hk).2 (far hj ho hk).1) (fun k hk p hp => (hI' k p hp).resolve_right (far hj ho hk).2) (h.objs j o ho)
 ·rcases other hz with ⟨rfl, rfl⟩ | ⟨hj, o, ho, rfl⟩
  ·refine ⟨?_, (hnew k hk).1⟩
   rcases (hnew k hk).2 with q | q
   ·exact (hlow k q).1
   ·exact Nat.le_trans h.below.size q
  ·have := h.low j o ho k ((footk hj).1 hk); omega
 ·rcases other hz with ⟨rfl, rfl⟩ | ⟨hj, o, ho, rfl⟩
  ·rcases other hz' with ⟨e1, -⟩ | ⟨hj', o', ho', rfl⟩
   ·exact hne e1.symm
   ·exact (far hj' ho' ((footk hj').1 hk')).2 hk
  ·rcases other hz' with ⟨rfl, rfl⟩ | ⟨hj', o', ho', rfl⟩
   ·exact (far hj ho ((footk hj).1 hk)).2 hk'
   ·exact h.apart j o j' o' ho ho' hne k ((footk hj).1 hk) ((footk hj').1 hk')
 ·rcases other hz with ⟨rfl, rfl⟩ | ⟨hj, o, ho, rfl⟩
  ·exact hlv i (hl i hi)
  ·exact hlv i (h.live j _ ho i (O.dx i hi))
end V
end Go.Proofs.YtgaipdillmleeaaGreat
end
section
namespace Go.Proofs.YtgaipdillmleeaaGreat
namespace V
open Go.RowKit
structure Tab where
 ty : Nat → Option (Nat × Bool)
 zero : Nat → Option (List Value)
 elem : Nat → Option (Nat × Nat)
 off : Nat → Nat → Option (Nat × Nat × Bool)
 bool : Nat → Bool
 fields : Nat → Option (List (Nat × Nat))
 bytes : Nat → Option Nat
 nilk : Nat → Option Nat
 int : Nat → Option IntKind
 map : Nat → Option (Nat × Nat)
 str : Nat → Bool
 one : Nat → Option Value
 seq : Nat → Option (List (Nat × Nat))
 eff : Nat → Bool
 lit : Bool := false
def TypeDesc.many : TypeDesc → Bool
 | .struct _ | .array _ _ => true
 | _ => false
def Em : TypeDesc → Option Nat
 | .pointer _ => some 0
 | .slice _ => some 1
 | .map _ _ => some 2
 | .func _ _ _ => some 3
 | .interface _ => some 4
 | _ => none
def Vj : TypeDesc → Bool
 | .bool => true
 | .string => true
 | .int _ => true
 | _ => false
structure Tab.Ok (P : Go.Program) (T : Tab) : Prop where
 ty : ∀ t n g, T.ty t = some (n, g) → 0 < n ∧ (∃ i, P.info? t = some i ∧ i.size = n) ∧ ∃ d, P.underlying t = some d ∧ TypeDesc.many d = g ∧ (g = false → n = 1)
 zero : ∀ t vs, T.zero t = some vs → ∃ i z, P.info? t = some i ∧ i.zero = some z ∧ z.cells = vs.toArray ∧ ∀ v ∈ vs, v.oneCell' = true
 elem : ∀ t e n, T.elem t = some (e, n) → P.underlying t = some (.slice e) ∧ 0 < n ∧ ∃ i, P.info? e = some i ∧ i.size = n
 off : ∀ t f o n g, T.off t f = some (o, n, g) → ∃ fs fd, P.underlying t = some (.struct fs) ∧ fs[f]? = some fd ∧ fd.offset = o ∧ T.ty fd.type = some (n, g)
 bool : ∀ t, T.bool t = true → P.underlying t = some .bool
 fields : ∀ t l, T.fields t = some l → ∃ fs, P.underlying t = some (.struct fs) ∧ fs.toList.map (fun f => (P.info? f.type).map fun i => (f.offset, i.size)) = l.map some
 bytes : ∀ t b, T.bytes t = some b → ∃ i, P.info? t = some i ∧ i.bytes = b
 nilk : ∀ t k, T.nilk t = some k → ∃ d, P.underlying t = some d ∧ Em d = some k
 int : ∀ t k, T.int t = some k → P.underlying t = some (.int k)
 map : ∀ t k e, T.map t = some (k, e) → P.underlying t = some (.map k e)
 str : ∀ t, T.str t = true → P.underlying t = some .string
 one : ∀ t v, T.one t = some v → ∃ i, P.info? t = some i ∧ i.zero = some v ∧ v.oneCell' = true
 seq : ∀ t l, T.seq t = some l → P.stoodInHeld t = false ∧ P.eqGuardType P.depth t = false ∧ (∃ fs, P.underlying t = some (.struct fs) ∧ fs.toList.map (fun f => (f.name == "_", f.type, f.offset)) = l.map fun p => (false, p.1, p.2)) ∧
  ∀ p ∈ l, ∃ d, P.underlying p.1 = some d ∧ Vj d = true
def ofConst : Value → A
 | .int k n => if (Lit.int k n).wf = true then .c (.int k n) else .top
 | .bool b => .c (.bool b)
 | .string s => if s.size ≤ gP then .c (.str s) else .top
 | .slice none 0 0 => .nil
 | .pointer none => .nilv (.pointer none)
 | .map none => .nilv (.map none)
 | .nilFunc => .nilv .nilFunc
 | .nilIface => .nilv .nilIface
 | _ => .top
def ev (s : Nat → A) : Operand → A
 | .tmp t => s t
 | .const v => ofConst v
 | .func f => .fn f []
 | .global _ => .top
def asC (mem : Mem) : A → Option C
 | .c x => some x
 | .nil => some (.sl [])
 | .own id => match mem id with | some (.arr _ _ xs) => some (.sl xs) | _ => none
 | .nn xs => some (.sl xs)
 | _ => none
def A.down : A → Option A1
 | .top => some .top
 | .c x => some (.c x)
 | .nil => some .nil
 | .ptr id off => some (.ptr id off)
 | .own id => some (.own id)
 | .map id => some (.map id)
 | .nilv v => some (.nilv v)
 | .nn xs => some (.c (.sl xs))
 | _ => none
def oQ : List A → Option (List A1)
 | [] => some []
 | a :: l => match a.down, oQ l with | some x, some xs => some (x :: xs) | _, _ => none
def qJ (mem : Mem) : List A → Option (List C)
 | [] => some []
 | a :: l => match asC mem a, qJ mem l with | some x, some xs => some (x :: xs) | _, _ => none
def gG : A → Option (List A)
 | .top => none
 | .undef => none
 | .tup _ => none
 | .pinP .. => none
 | .pinC .. => none
 | .pinG .. => none
 | .agg xs => some (xs.map A.c)
 | .aggA xs => some (xs.map A1.up)
 | .tupA _ => none
 | .defs _ => none
 | .nilv v => if v.oneCell' = true then some [.nilv v] else none
 | a => some [a]
def ld (T : Tab) (mem : Mem) (ty : Nat) (cells : List A) : Option A :=
 match T.ty ty with
 | some (n, true) => if n ≤ cells.length then (match qJ mem (cells.take n) with | some xs => some (.agg xs) | none => (match oQ (cells.take n) with | some ys => some (.aggA ys) | none => none)) else none
 | some (_, false) => cells.head?
 | none => none
def ldR (T : Tab) (ty : Nat) (xs : List C) : Option A :=
 match T.ty ty with
 | some (n, true) => if n ≤ xs.length then some (.agg (xs.take n)) else none
 | some (_, false) => match xs with | x :: _ => some (.c x) | [] => none
 | none => none
def iX (op : BinOp) (k : IntKind) (a b : Int) : Option C :=
 match op with
 | .add => some (.int k (k.wrap (a + b)))
 | .sub => some (.int k (k.wrap (a - b)))
 | .mul => some (.int k (k.wrap (a * b)))
 | .eql => some (.bool (decide (a = b)))
 | .neq => some (.bool (!decide (a = b)))
 | .lss => some (.bool (decide (a < b)))
 | .leq => some (.bool (decide (a ≤ b)))
 | .gtr => some (.bool (decide (b < a)))
 | .geq => some (.bool (decide (b ≤ a)))
 | .quo => if b = 0 then none else some (.int k (k.wrap (a.tdiv b)))
 | .rem => if b = 0 then none else some (.int k (a.tmod b))
 | .and => some (.int k (k.wrap (BitVec.ofInt k.bits a &&& BitVec.ofInt k.bits b).toNat))
 | .or => some (.int k (k.wrap (BitVec.ofInt k.bits a ||| BitVec.ofInt k.bits b).toNat))
 | .xor => some (.int k (k.wrap (BitVec.ofInt k.bits a ^^^ BitVec.ofInt k.bits b).toNat))
 | .andNot => some (.int k (k.wrap (BitVec.ofInt k.bits a &&& ~~~(BitVec.ofInt k.bits b)).toNat))
 | _ => none
def mG (op : BinOp) (k : IntKind) (a b : Int) : Option C :=
 match op with
 | .shl => if b < 0 then none else some (.int k (k.wrap (a * 2 ^ (min b.toNat k.bits))))
 | .shr => if b < 0 then none else some (.int k (a.fdiv (2 ^ (min b.toNat k.bits))))
 | _ => none
def oo (op : BinOp) (a b : ByteArray) : Option C :=
 match op with
 | .eql => some (.bool (a.toList == b.toList))
 | .neq => some (.bool !(a.toList == b.toList))
 | .lss => some (.bool (Op.bytesLess a.toList b.toList))
 | .leq => some (.bool (Op.bytesLess a.toList b.toList || a.toList == b.toList))
 | .gtr => some (.bool !(Op.bytesLess a.toList b.toList || a.toList == b.toList))
 | .geq => some (.bool !(Op.bytesLess a.toList b.toList))
 | .add => if a.size + b.size ≤ gP then some (.str (a ++ b)) else none
 | _ => none
def vB (op : BinOp) (a b : Bool) : Option C :=
 match op with
 | .eql => some (.bool (a == b))
 | .neq => some (.bool !(a == b))
 | _ => none
def eqNil (k : Nat) : A → A → Option Bool
 | .nilv (.pointer none), .nilv (.pointer none) => if k = 0 then some true else none
 | .ptr _ _, .nilv (.pointer none) => if k = 0 then some false else none
 | .rptr _, .nilv (.pointer none) => if k = 0 then some false else none
 | .eptr _ _ _ _, .nilv (.pointer none) => if k = 0 then some false else none
 | .nil, .nil => if k = 1 then some true else none
 | .nn _, .nil => if k = 1 then some false else none
 | .nilv (.map none), .nilv (.map none) => if k = 2 then some true else none
 | .map _, .nilv (.map none) => if k = 2 then some false else none
 | .nilv .nilFunc, .nilv .nilFunc => if k = 3 then some true else none
 | .fn _ _, .nilv .nilFunc => if k = 3 then some false else none
 | .fnR _ _, .nilv .nilFunc => if k = 3 then some false else none
 | .ifc _ _, .nilv .nilIface => if k = 4 then some false else none
 | _, _ => none
def zJ (op : BinOp) (r : Option Bool) : Option C :=
 match op, r with
 | .eql, some b => some (.bool b)
 | .neq, some b => some (.bool !b)
 | _, _ => none
def bin (isB : Bool) (nk : Option Nat) (op : BinOp) : A → A → Option C
 | .c (.int k a), .c (.int k' b) => match op with
   | .shl => mG .shl k a b
   | .shr => mG .shr k a b
   | _ => if k = k' then iX op k a b else none
 | .c (.str a), .c (.str b) => oo op a b
 | .c (.bool a), .c (.bool b) => if isB = true then vB op a b else none
 | a, b => match nk with | some k => zJ op (eqNil k a b) | none => none
theorem P5 {k : IntKind} {n : Int} : (Lit.int k n).wf = true ↔ k.min ≤ n ∧ n ≤ k.max := by simp [Lit.wf]
theorem Q6 {k : IntKind} {a b : Int} (h : (Lit.int k a).wf = true) : (Lit.int k (a.tmod b)).wf = true := by
 rw [P5] at h ⊢;have h0 : k.min ≤ 0 ∧ 0 ≤ k.max := by cases k <;> decide
 rcases Int.le_total 0 a with ha | ha
 ·have h1 := Int.tmod_nonneg b ha;have h2 : a.tmod b ≤ a := by
   rw [Int.tmod_eq_emod_of_nonneg ha];rcases Int.le_total 0 b with hb | hb
   ·by_cases e : b = 0
    ·subst e; simp
    ·by_cases hlt : a < b
     ·rw [Int.emod_eq_of_lt ha hlt]; exact Int.le_refl _
     ·have := Int.emod_lt_of_pos a (show 0 < b by omega); omega
   ·have e : a % b = a % (-b) := (Int.emod_neg a b).symm;rw [e];by_cases e0 : b = 0
    ·subst e0; simp
    ·by_cases hlt : a < -b
     ·rw [Int.emod_eq_of_lt ha hlt]; exact Int.le_refl _
     ·have := Int.emod_lt_of_pos a (show 0 < -b by omega); omega
  omega
 ·have e : a.tmod b = -((-a).tmod b) := by rw [Int.neg_tmod]; omega
  have ha' : 0 ≤ -a := by omega
  have h1 := Int.tmod_nonneg b ha';have h2 : (-a).tmod b ≤ -a := by
   rw [Int.tmod_eq_emod_of_nonneg ha'];rcases Int.le_total 0 b with hb | hb
   ·by_cases e : b = 0
    ·subst e; simp
    ·by_cases hlt : -a < b
     ·rw [Int.emod_eq_of_lt ha' hlt]; exact Int.le_refl _
     ·have := Int.emod_lt_of_pos (-a) (show 0 < b by omega); omega
   ·have e : -a % b = -a % (-b) := (Int.emod_neg (-a) b).symm;rw [e];by_cases e0 : b = 0
    ·subst e0; simp
    ·by_cases hlt : -a < -b
     ·rw [Int.emod_eq_of_lt ha' hlt]; exact Int.le_refl _
     ·have := Int.emod_lt_of_pos (-a) (show 0 < -b by omega); omega
  omega
theorem QW {k : IntKind} {a : Int} {n : Nat} (h : (Lit.int k a).wf = true) : (Lit.int k (a.fdiv (2 ^ n))).wf = true := by
 rw [P5] at h ⊢;have h0 : k.min ≤ 0 ∧ 0 ≤ k.max := by cases k <;> decide
 have hp : (0 : Int) < 2 ^ n := Int.pow_pos (by decide);rw [Int.fdiv_eq_ediv_of_nonneg _ (Int.le_of_lt hp)];rcases Int.le_total 0 a with ha | ha
 ·have h1 := Int.ediv_nonneg ha (Int.le_of_lt hp);have h2 : a / 2 ^ n ≤ a := Int.ediv_le_self _ ha;omega
 ·have h2 : a ≤ a / 2 ^ n := by
   rw [Int.le_ediv_iff_mul_le hp];have := Int.mul_le_mul_of_nonpos_left ha (show (1 : Int) ≤ 2 ^ n by omega);rw [Int.mul_one] at this;exact this
  have h3 : a / 2 ^ n ≤ 0 := by
   have : a / 2 ^ n < 0 + 1 := by rw [Int.ediv_lt_iff_lt_mul hp]; omega
   omega
  omega
theorem vY (k : IntKind) (n : Int) : (Lit.int k (k.wrap n)).wf = true := by
 cases k <;> simp [Lit.wf, IntKind.wrap, IntKind.min, IntKind.max, IntKind.bits, IntKind.signed] <;> omega
def j3 (mem : Mem) : A → Option (List C)
 | .agg xs => some xs
 | a => match asC mem a with | some x => some [x] | none => none
def oU (place : Nat → Option (Nat × Nat)) : List C → List (Nat × Option (List C)) → Option (List C)
 | cells, [] => some cells
 | cells, (i, v) :: rest => match place i, v with
   | some (o, n), some xs => if xs.length = n ∧ o + n ≤ cells.length then oU place (cells.take o ++ (xs ++ cells.drop (o + n))) rest else none
   | _, _ => none
def yH (T : Tab) (ty : Nat) : Option (List C) := match T.zero ty with | some vs => qJ (fun _ => none) (vs.map ofConst) | none => none
def chunks (n : Nat) : Nat → List C → List (List C)
 | 0, _ => []
 | k + 1, cells => cells.take n :: chunks n k (cells.drop n)
theorem rY (n : Nat) : ∀ (len : Nat) (cells : List C), chunks n len cells = (List.range len).map fun i => (cells.drop (i * n)).take n
 | 0, _ => rfl
 | k + 1, cells => by
   rw [chunks, rY n k, List.range_succ_eq_map, List.map_cons, List.map_map]
   congr 1
   ·simp
   ·refine List.map_congr_left fun i _ => ?_;simp only [Function.comp, List.drop_drop, Nat.succ_eq_add_one];rw [Nat.add_mul, Nat.one_mul, Nat.add_comm]
section
variable {w0 w : World} {I0 I : Nat → Nat → Prop} {B : Nat → Value} {mem : Mem}
theorem XZ (h : MR w0 I0 B I mem w) {id : Nat} {ty e : Nat} {xs : List (List C)} (ho : mem id = some (.arr ty e xs)) : RC w I (B id) (.sl xs) := by
 obtain ⟨vs, h1, h2, h3, h4⟩ := h.objs id _ ho;have at' : ∀ {xs : List (List C)} (_ : ∀ x ∈ xs, x.length = e) (i j : Nat) (x : List C), xs[i]? = some x → j < e → (flat xs)[i * e + j]? = x[j]? := by
  intro xs;induction xs with
  | nil => intro _ i j x hx _; simp at hx
  | cons y ys ih =>
    intro hl i j x hx hj;have hy := hl y (by simp);cases i with
    | zero =>
      simp at hx; subst hx;simp only [flat, List.flatten_cons, Nat.zero_mul, Nat.zero_add];rw [List.getElem?_append_left (by omega)]
    | succ i =>
      have := ih (fun z hz => hl z (by simp [hz])) i j x oD hj;exact aaQ
 have len : vs.length = xs.length * e := h1.1;rcases h1.2 with ⟨hv, hn⟩ | ⟨g, cap, cur, hv, -, hg, hc, hm, hs, ht⟩
 ·rw [hv];have : xs = [] := List.length_eq_zero_iff.1 hn;subst this;exact .sl (e := e) (fun _ _ => undef) rfl (Nat.le_refl _) (Nat.zero_le _) (fun _ h => by simp at h) (fun i x hx => by simp at hx) (fun i j x c hx => by simp at hx)
 ·rw [hv];have hlt : ∀ i j x, xs[i]? = some x → j < e → i * e + j < xs.length * e := fun i j x hx hj => by
   have hi := (List.getElem?_eq_some_iff.1 hx).1;have : (i + 1) * e ≤ xs.length * e := Nat.mul_le_mul_right _ hi;exact Ot
  refine .sl (e := e) (fun i j => vs.getD (i * e + j) undef) rfl hc hm h3 (fun i x hx => ⟨g, 0, rfl, fun j hj => ?_⟩) (fun i j x c hx hj => ?_)
  ·rw [Nat.zero_add];refine ⟨(h4 g (by rw [hv]; rfl) _).2 (hlt i j x hx hj), ?_⟩;have hl := hlt i j x hx hj;simp only [World.cell?, hg];rw [← ht];have : i * e + j < cur.size := by rw [hs]; exact Nat.lt_of_lt_of_le hl (Nat.mul_le_mul_right _ hc)
   simp [hl, this]
  ·have hj' : j < e := by have := h3 x (List.mem_of_getElem? hx); have := (List.getElem?_eq_some_iff.1 hj).1; omega
   obtain ⟨v, hv1, hv2⟩ := h2.at (i * e + j) c (by rw [at' h3 i j x hx hj']; exact hj);simp [hv1]; exact hv2
theorem ku (h : MR w0 I0 B I mem w) {a : A} {v : Value} {x : C} (ha : asC mem a = some x) (hv : RV B w I a v) : RC w I v x := by
 cases a with
 | c y => simp [asC] at ha; subst ha; exact hv
 | nn xs => simp [asC] at ha; subst ha; exact hv.1
 | nil =>
   simp [asC] at ha; subst ha;rw [show v = _ from hv];exact .sl (e := 0) (fun _ _ => undef) rfl (Nat.le_refl _) (Nat.zero_le _) (fun _ h => by simp at h) (fun i x hx => by simp at hx) (fun i j x c hx => by simp at hx)
 | own id =>
   simp only [asC] at ha;split at ha
   ·rename_i ty e xs ho;cases ha
    rw [show v = B id from hv.1];exact XZ h ho
   ·cases ha
 | _ => simp [asC] at ha
theorem kY (h : MR w0 I0 B I mem w) : ∀ {al : List A} {vs : List Value} {xs : List C}, qJ mem al = some xs → RVs B w I al vs → RCs w I vs xs
 | [], [], _, ha, _ => by simp [qJ] at ha; subst ha; trivial
 | a :: al, v :: vs, xs, ha, hv => by
   simp only [qJ] at ha;split at ha
   ·rename_i x ys h1 h2;cases ha
    exact ⟨ku h h1 hv.1.1, kY h h2 hv.2⟩
   ·cases ha
theorem kU {a : A} {x : A1} {v : Value} (h : a.down = some x) (hv : RV B w I a v) : R1 B w I x v := by
 cases a <;> simp [A.down] at h <;> subst h <;> first | exact hv | exact hv.1 | trivial
theorem iU {a : A} {x : A1} (h : a.down = some x) : ∀ j ∈ x.ids, j ∈ a.ids := by
 cases a <;> simp [A.down] at h <;> subst h <;> simp [A1.ids, A.ids]
theorem oC : ∀ {al : List A} {vs : List Value} {xs : List A1}, oQ al = some xs → RVs B w I al vs → R1s B w I xs vs ∧ ∀ u ∈ vs, u.oneCell' = true
 | [], [], _, ha, _ => by simp [oQ] at ha; subst ha; exact ⟨trivial, fun _ h => by simp at h⟩
 | a :: al, v :: vs, xs, ha, hv => by
   simp only [oQ] at ha;split at ha
   ·rename_i x ys h1 h2;cases ha
    obtain ⟨k1, k2⟩ := oC h2 hv.2;refine ⟨⟨kU h1 hv.1.1, k1⟩, fun u hu => ?_⟩;rcases List.mem_cons.1 hu with rfl | hu
    ·exact hv.1.2
    ·exact k2 u hu
   ·cases ha
theorem mg : ∀ {al : List A} {xs : List A1}, oQ al = some xs → ∀ j ∈ xs.flatMap A1.ids, j ∈ al.flatMap A.ids
 | [], _, ha, j, hj => by simp [oQ] at ha; subst ha; simp at hj
 | a :: al, xs, ha, j, hj => by
   simp only [oQ] at ha;split at ha
   ·rename_i x ys h1 h2;cases ha
    rw [List.flatMap_cons, List.mem_append] at hj ⊢;exact hj.imp (iU h1 j) (mg h2 j)
   ·cases ha
theorem Kh : ∀ {xs : List A1} {vs : List Value}, R1s B w I xs vs → (∀ u ∈ vs, u.oneCell' = true) → RVs B w I (xs.map A1.up) vs
 | [], [], _, _ => trivial
 | x :: xs, v :: vs, h, h1 => ⟨⟨F4.2 h.1, h1 v (by simp)⟩, Kh h.2 fun u hu => h1 u (by simp [hu])⟩
theorem RVs.take {al : List A} {vs : List Value} (k : Nat) (h : RVs B w I al vs) : RVs B w I (al.take k) (vs.take k) := by
 induction k generalizing al vs with
 | zero => trivial
 | succ k ih =>
   cases al <;> cases vs
   ·trivial
   ·exact h.elim
   ·exact h.elim
   ·exact ⟨h.1, ih h.2⟩
end
theorem kg (b off j : Nat) : (⟨b, off, none⟩ : Addr).add j = ⟨b, off + j, none⟩ := by unfold Addr.add; split <;> simp_all
section
variable {P : Go.Program} {T : Tab} (hT : T.Ok P) {w : World}
include hT
theorem sU {t n : Nat} {g : Bool} (h : T.ty t = some (n, g)) : (isAgg t).run P w = .ok g w := by
 obtain ⟨-, -, d, hd, hm, -⟩ := hT.ty t n g h;unfold isAgg;simp only [Sem.run_bind, run_underlying hd, Result.andThen_ok];subst hm;cases d <;> rfl
theorem run_sizeOf {t n : Nat} {g : Bool} (h : T.ty t = some (n, g)) : (sizeOf t).run P w = .ok n w := by
 obtain ⟨-, ⟨i, hi, hn⟩, -⟩ := hT.ty t n g h;simp [sizeOf, typeInfo, hi, hn]
theorem lV {t n : Nat} (h : T.ty t = some (n, true)) {b off : Nat} {cs : List Value} (hl : cs.length = n) (hc : ∀ (j : Nat) v, cs[j]? = some v → w.cell? ⟨b, off + j, none⟩ = some v) :
 (loadVar t ⟨b, off, none⟩).run P w = .ok (.agg cs.toArray) w := by
 subst hl
 unfold loadVar
 simp only [Sem.run_bind, sU hT h, run_sizeOf hT h, Result.andThen_ok, if_true]
 rw [run_loadCells_list w ⟨b, off, none⟩ cs (fun j v hj => by rw [kg]; exact hc j v hj)]
 rfl
theorem qW {t n : Nat} (h : T.ty t = some (n, false)) {a : Addr} {v : Value} (hc : w.cell? a = some v) : (loadVar t a).run P w = .ok v w := by
 unfold loadVar;simp only [Sem.run_bind, sU hT h, Result.andThen_ok];simp [load, Sem.run, hc]
theorem nZ {t f o n : Nat} {g : Bool} (h : T.off t f = some (o, n, g)) (b off : Nat) : (Instr.fieldAt t (.pointer (some ⟨b, off, none⟩)) f).run P w = .ok (.pointer (some ⟨b, off + o, none⟩)) w := by
 obtain ⟨fs, fd, hu, hf, rfl, ht⟩ := hT.off t f o n g h;have h0 := (hT.ty _ _ _ ht).1;unfold Instr.fieldAt;simp only [Sem.run_bind, run_underlying hu, Result.andThen_ok, hf, Instr.sureAddr, fieldPlace, Sem.run_pure, run_sizeOf hT ht];rw [if_neg (by omega)];simp [kg]
theorem Me {t f o n : Nat} (h : T.off t f = some (o, n, true)) (cs : List Value) : (Instr.field t (.agg cs.toArray) f).run P w = .ok (.agg ((cs.drop o).take n).toArray) w := by
 obtain ⟨fs, fd, hu, hf, rfl, ht⟩ := hT.off t f o n _ h;unfold Instr.field;simp only [Sem.run_bind, run_underlying hu, Result.andThen_ok, hf, asAgg, Sem.run_pure, part, sU hT ht, run_sizeOf hT ht, if_true];simp [List.extract_toArray, List.extract]
theorem D6 {t f o n : Nat} (h : T.off t f = some (o, n, false)) {cs : List Value} {v : Value} (hv : cs[o]? = some v) : (Instr.field t (.agg cs.toArray) f).run P w = .ok v w := by
 obtain ⟨fs, fd, hu, hf, rfl, ht⟩ := hT.off t f o n _ h;unfold Instr.field;simp only [Sem.run_bind, run_underlying hu, Result.andThen_ok, hf, asAgg, Sem.run_pure, part, sU hT ht];simp [hv]
theorem ug {t e n : Nat} (h : T.elem t = some (e, n)) {b off len cap : Nat} {k : IntKind} {i : Int} (h0 : 0 ≤ i) (hi : i < len) : (Instr.indexAt t (.slice (some ⟨b, off, none⟩) len cap) (.int k i)).run P w = .ok (.pointer (some ⟨b, off + i.toNat * n, none⟩)) w := by
 obtain ⟨hu, -, i', hi', hn⟩ := hT.elem t e n h;unfold Instr.indexAt;simp [asIntOf, run_underlying hu, h0, hi, sizeOf, typeInfo, hi', hn, kg]
end
def jP : List A → Option (List Nat)
 | [] => some []
 | .ptr id 0 :: l => match jP l with | some ids => some (id :: ids) | none => none
 | _ :: _ => none
def tV (d : Nat) : Option A → Option Nat
 | none => some d
 | some (.c (.int _ k)) => if 0 ≤ k then some k.toNat else none
 | _ => none
def zm (n : Nat) (xs : List (List C)) (lo hi : Option A) : Option A :=
 match tV 0 lo, tV xs.length hi with
 | some l, some h => if l ≤ h ∧ h ≤ xs.length ∧ (l = 0 ∨ ∀ x ∈ xs, x.length = n) then some (.c (.sl ((xs.take h).drop l))) else none
 | _, _ => none
def qv1 (T : Tab) (s : Nat → A) (mem : Mem) (id : Nat) : Op → Option (A × Option O)
 | .move x => some (ev s x, none)
 | .assign x => some (ev s x, none)
 | .pick c a b => match ev s c with | .c (.bool true) => some (ev s a, none) | .c (.bool false) => some (ev s b, none) | _ => none
 | .box ty x => match gG (ev s x) with | some l => some (.ptr id 0, some (.box ty l)) | none => none
 | .alloc ty => match T.zero ty with | some vs => some (.ptr id 0, some (.box ty (vs.map ofConst))) | none => none
 | .load ty x => match ev s x with
   | .ptr j off => (match mem j with | some (.box _ cells) => (match ld T mem ty (cells.drop off) with | some r => some (r, none) | none => none) | _ => none)
   | .rptr xs => (match ldR T ty xs with | some r => some (r, none) | none => none)
   | _ => none
 | .fieldAddr ty x f => match T.off ty f with
   | some (o, _, _) => (match ev s x with | .ptr j off => some (.ptr j (off + o), none) | .rptr xs => some (.rptr (xs.drop o), none) | _ => none)
   | none => none
 | .field ty x f => match T.off ty f, ev s x with
   | some (o, n, true), .agg xs => some (.agg ((xs.drop o).take n), none)
   | some (o, _, false), .agg xs => (match xs[o]? with | some y => some (.c y, none) | none => none)
   | _, _ => none
 | .indexAddr ty x i => match T.elem ty, asC mem (ev s x), ev s i with
   | some (_, n), some (.sl xs), .c (.int _ k) => if 0 ≤ k then (match xs[k.toNat]? with | some cs => if cs.length = n then some (.rptr cs, none) else none | none => none) else none
   | _, _, _ => none
 | .binOp op ty x y _ => match bin (T.bool ty) (T.nilk ty) op (ev s x) (ev s y) with | some r => some (.c r, none) | none => none
 | .unOp .not _ x => match ev s x with | .c (.bool b) => some (.c (.bool !b), none) | _ => none
 | .extract x i => match ev s x with
   | .tup xs => (match xs[i]? with | some (true, us) => some (.agg us, none) | some (false, [y]) => some (.c y, none) | _ => none)
   | _ => none
 | .makeFunc (.func f) first caps => if first.size = 0 then (match jP (caps.toList.map (ev s)) with | some ids => some (.fn f ids, none) | none => none) else none
 | .nilCheck x => match ev s x with | .ptr j off => some (.ptr j off, none) | .rptr xs => some (.rptr xs, none) | .fn f ids => some (.fn f ids, none) | _ => none
 | .slice ty x lo hi none => match T.elem ty, asC mem (ev s x) with
   | some (_, n), some (.sl xs) => (match zm n xs (lo.map (ev s)) (hi.map (ev s)) with | some r => some (r, none) | none => none)
   | _, _ => none
 | .build ty parts => match T.fields ty, yH T ty with
   | some l, some zs => (match oU (fun i => l[i]?) zs (parts.toList.map fun p => (p.1, j3 mem (ev s p.2))) with | some xs => some (.agg xs, none) | none => none)
   | _, _ => none
 | .buildSlice ty len parts => if T.lit = true then none else match T.elem ty with
   | some (e, n) => (match yH T e with
     | some zs => if zs.length = n ∧ 0 < len ∧ len * n ≤ 2 ^ 24 then (match oU (fun i => some (i * n, n)) (List.replicate len zs).flatten (parts.toList.map fun p => (p.1, j3 mem (ev s p.2))) with | some xs => some (.c (.sl (chunks n len xs)), none) | none => none) else none
     | none => none)
   | none => none
 | .call c => match c.callee, c.args.toList, c.argTypes.toList with
   | .builtin .len, [x], [t] => (match T.elem t, asC mem (ev s x) with
     | some _, some (.sl xs) => some (.c (.int .i64 xs.length), none)
     | _, _ => none)
   | _, _, _ => none
 | _ => none
theorem GL (vs : List Value) : ∀ (j off : Nat) (cs : List Value), off + j + vs.length ≤ cs.length → (vs.zipIdx j).foldl (fun (a : Array Value) p => a.setIfInBounds (off + p.2) p.1) cs.toArray = (cs.take (off + j) ++ (vs ++ cs.drop (off + j + vs.length))).toArray := by
 induction vs with
 | nil => intro j off cs _; simp
 | cons v vs ih =>
   intro j off cs h;have hlt : off + j < cs.length := by simp at h; omega
   rw [List.zipIdx_cons, List.foldl_cons];rw [show cs.toArray.setIfInBounds (off + j) v = (cs.set (off + j) v).toArray by simp];rw [ih (j + 1) off _ (by simp at h ⊢; omega)]
   congr 1
   rw [← Nat.add_assoc, List.take_set, List.length_cons, List.drop_set, if_pos (by omega)];rw [show off + j + 1 + vs.length = off + j + (vs.length + 1) by omega];rw [List.take_add_one, List.getElem?_eq_getElem hlt, List.set_append, if_neg (by simp; omega)];simp [List.length_take, Nat.min_eq_left (Nat.le_of_lt hlt)]
theorem qY {α : Type} {n : Nat} {zs : List α} (hz : zs.length = n) : ∀ (len j : Nat), j < len * n → (List.replicate len zs).flatten[j]? = zs[j % n]?
 | 0, j, h => by omega
 | len + 1, j, h => by
   rw [List.replicate_succ, List.flatten_cons];by_cases hj : j < n
   ·rw [List.getElem?_append_left (by omega), Nat.mod_eq_of_lt hj]
   ·rw [List.getElem?_append_right (by omega), hz, qY hz len (j - n) (by rw [Nat.add_mul] at h; omega)]
    congr 1
    exact (Nat.mod_eq_sub_mod (by omega)).symm
theorem gT {α : Type} {n : Nat} {zs : List α} (hz : zs.length = n) (len : Nat) : (List.replicate len zs).flatten.length = len * n := by
 simp [hz]
theorem Ig {w0 w : World} {I0 I : Nat → Nat → Prop} {B : Nat → Value} {mem : Mem} (h : MR w0 I0 B I mem w) {a : A} {v : Value} {xs : List C} (ha : j3 mem a = some xs) (hv : RV B w I a v) : RCs w I v.cells.toList xs := by
 unfold j3 at ha;split at ha
 ·cases ha; obtain ⟨vs, rfl, hv⟩ := hv; exact hv
 ·split at ha
  ·rename_i x hx;cases ha
   have := ku h hx hv;rw [this.one.2];exact ⟨this, trivial⟩
  ·cases ha
theorem wJ {w0 w : World} {I0 I : Nat → Nat → Prop} {B : Nat → Value} {mem : Mem} (h : MR w0 I0 B I mem w) {ρ : Operand → Value} {s : Nat → A} (hev : ∀ x, RV B w I (ev s x) (ρ x)) {place : Nat → Option (Nat × Nat)} :
 ∀ (l : List (Nat × Operand)) (cs : List Value) (xs r : List C), RCs w I cs xs → oU place xs (l.map fun p => (p.1, j3 mem (ev s p.2))) = some r → ∃ us, Instr.fill place cs.toArray (l.map fun p => (p.1, ρ p.2)) = some us.toArray ∧ RCs w I us r ∧ us.length = cs.length
 | [], cs, xs, r, hc, hf => by simp [oU] at hf; subst hf; exact ⟨cs, rfl, hc, rfl⟩
 | (i, x) :: l, cs, xs, r, hc, hf => by
   simp only [List.map_cons, oU] at hf;split at hf
   ·rename_i o n ys hp hy;split at hf
    ·rename_i hh;have hv := Ig h hy (hev x);have hvl := hv.length;have hcl := hc.length;have hsz : (ρ x).cells.size = n := by rw [← Array.length_toList, hvl]; exact hh.1
     obtain ⟨us, h1, h2, h3⟩ := wJ h hev l (cs.take o ++ ((ρ x).cells.toList ++ cs.drop (o + n))) _ r ((hc.take o).append (hv.append (hc.drop _))) hf;refine ⟨us, ?_, h2, ?_⟩
     ·simp only [List.map_cons, Instr.fill, hp];rw [if_neg Kt];have hfold := GL (ρ x).cells.toList 0 o cs Kt;simp only [Nat.add_zero, Array.length_toList, hsz] at hfold;have e : (ρ x).cells.zipIdx.foldl (fun cs (p : Value × Nat) => cs.setIfInBounds (o + p.2) p.1) cs.toArray = (cs.take o ++ ((ρ x).cells.toList ++ cs.drop (o + n))).toArray := by
       exact Uf
      rw [← h1, ← e]
     ·rw [h3]; simp [hsz]; omega
    ·cases hf
   ·cases hf
theorem gM {w : World} {I : Nat → Nat → Prop} {B : Nat → Value} {s : Nat → A} {a : Act} (hs : ∀ t, RV B w I (s t) (a.tmps.getD t undef)) (x : Operand) : RV B w I (ev s x) (a.eval x) := by
 cases x with
 | tmp t => exact hs t
 | const v =>
   show RV B w I (ofConst v) v;unfold ofConst;split
   ·split
    ·rename_i h; exact .int h
    ·trivial
   ·exact .bool
   ·split
    ·rename_i h; exact .str h
    ·trivial
   ·rfl
   ·rfl
   ·rfl
   ·rfl
   ·rfl
   ·trivial
 | global g => trivial
 | func f => rfl
theorem qd {B : Nat → Value} {w : World} {I : Nat → Nat → Prop} {a : A} {v : Value} {l : List A} (h : gG a = some l) (hv : RV B w I a v) : RVs B w I l v.cells.toList := by
 cases a with
 | top => cases h
 | undef => cases h
 | tup _ => cases h
 | agg xs => cases h; obtain ⟨vs, rfl, h⟩ := hv; exact RVs.ofData h
 | c x => cases h; have := RC.one hv; rw [this.2]; exact ⟨⟨hv, this.1⟩, trivial⟩
 | nil => cases h; cases hv; exact ⟨⟨rfl, rfl⟩, trivial⟩
 | ptr id off => cases h; obtain ⟨b, h1, rfl⟩ := hv; exact ⟨⟨⟨b, h1, rfl⟩, rfl⟩, trivial⟩
 | rptr xs => cases h; obtain ⟨b, off, vs, rfl, h⟩ := hv; exact ⟨⟨⟨b, off, vs, rfl, h⟩, rfl⟩, trivial⟩
 | own id => cases h; obtain ⟨h1, a, n, cap, rfl⟩ := hv; exact ⟨⟨⟨h1, _, _, _, rfl⟩, rfl⟩, trivial⟩
 | fn f ids => cases h; cases hv; exact ⟨⟨rfl, rfl⟩, trivial⟩
 | pinP _ _ _ => cases h
 | pinC _ _ => cases h
 | pinG _ _ => cases h
 | eptr id e i f => cases h; obtain ⟨b, off, n, cap, h1, rfl⟩ := hv; exact ⟨⟨⟨b, off, n, cap, h1, rfl⟩, rfl⟩, trivial⟩
 | win id e lo hi => cases h; obtain ⟨ad, n, cap, h1, h2, h3, rfl⟩ := hv; exact ⟨⟨⟨ad, n, cap, h1, h2, h3, rfl⟩, rfl⟩, trivial⟩
 | map id => cases h; obtain ⟨h1, r, rfl⟩ := hv; exact ⟨⟨⟨h1, r, rfl⟩, rfl⟩, trivial⟩
 | nilv u =>
   unfold gG at h;dsimp only at h;split at h
   ·rename_i hu;cases h
    have e : v = u := hv;have : u.cells = #[u] := by cases u <;> first | rfl | cases hu
    rw [e, this]; exact ⟨⟨rfl, hu⟩, trivial⟩
   ·cases h
 | ifc t x => cases h; obtain ⟨u, rfl, h1⟩ := hv; exact ⟨⟨⟨u, rfl, h1⟩, rfl⟩, trivial⟩
 | tupA _ => cases h
 | defs _ => cases h
 | fnR f caps => cases h; obtain ⟨ps, rfl, h1⟩ := hv; exact ⟨⟨⟨ps, rfl, h1⟩, rfl⟩, trivial⟩
 | aggA xs => cases h; obtain ⟨vs, rfl, h1, h2⟩ := hv; exact Kh h1 h2
 | nn xs => cases h; obtain ⟨h1, a, n, cap, rfl⟩ := hv; exact ⟨⟨⟨h1, _, _, _, rfl⟩, rfl⟩, trivial⟩
theorem uq {s : Nat → A} {mem : Mem} (hl : ∀ t, ∀ j ∈ (s t).ids, (mem j).isSome = true) (x : Operand) : ∀ j ∈ (ev s x).ids, (mem j).isSome = true := by
 cases x with
 | tmp t => exact hl t
 | const v =>
   intro j hj;simp only [ev, ofConst] at hj;split at hj <;> (try split at hj) <;> simp [A.ids] at hj
 | global g => intro j hj; simp [ev, A.ids] at hj
 | func f => intro j hj; simp [ev, A.ids] at hj
theorem mJ {a : A} {l : List A} (h : gG a = some l) : ∀ j ∈ l.flatMap A.ids, j ∈ a.ids := by
 by_cases hn : ∃ u, a = .nilv u
 ·obtain ⟨u, rfl⟩ := hn;simp only [gG] at h;split at h <;> cases h;intro j hj;simp [A.ids] at hj
 cases a <;> simp [gG] at h
 case nilv u => exact absurd ⟨u, rfl⟩ hn
 all_goals subst h
 all_goals intro j hj
 case aggA xs =>
  simp only [List.mem_flatMap, List.mem_map] at hj;obtain ⟨_, ⟨x, hx, rfl⟩, h⟩ := hj;rw [xQ] at h;exact List.mem_flatMap.2 ⟨x, hx, h⟩
 case agg xs =>
  simp only [List.mem_flatMap, List.mem_map] at hj;obtain ⟨_, ⟨x, -, rfl⟩, h⟩ := hj;simp [A.ids] at h
 all_goals (simp [A.ids] at hj ⊢; try exact hj)
theorem yX {B : Nat → Value} {w : World} {I : Nat → Nat → Prop} {ρ : Operand → Value} {s : Nat → A} (hev : ∀ x, RV B w I (ev s x) (ρ x)) : ∀ {l : List Operand} {ids : List Nat}, jP (l.map (ev s)) = some ids → l.map ρ = ids.map B ∧ ∀ j ∈ ids, ∃ x, j ∈ (ev s x).ids
 | [], ids, h => by simp [jP] at h; subst h; exact ⟨rfl, fun j hj => by simp at hj⟩
 | x :: l, ids, h => by
   have hx := hev x;cases hx1 : ev s x with
   | ptr id off =>
     cases off with
     | zero =>
       simp only [List.map_cons, hx1, jP] at h;split at h
       ·rename_i ids' h';cases h
        obtain ⟨e1, e2⟩ := yX hev h';rw [hx1] at hx;obtain ⟨b, h1, h2⟩ := hx;refine ⟨by simp [e1, h1, h2], fun j hj => ?_⟩;rcases List.mem_cons.1 hj with rfl | hj
        ·exact ⟨x, by simp [hx1, A.ids]⟩
        ·exact e2 j hj
       ·cases h
     | succ n => simp [hx1, jP] at h
   | _ => simp [hx1, jP] at h
theorem ig {B : Nat → Value} {w : World} {I : Nat → Nat → Prop} : ∀ {vs : List Value}, (∀ v ∈ vs, v.oneCell' = true) → RVs B w I (vs.map ofConst) vs
 | [], _ => trivial
 | v :: vs, h => ⟨⟨gM (s := fun _ => .top) (a := ⟨#[], []⟩) (fun _ => trivial) (.const v), h v (by simp)⟩, ig fun u hu => h u (by simp [hu])⟩
theorem iH (v : Value) : (ofConst v).ids = [] := by
 unfold ofConst;split <;> (try split) <;> rfl
section
variable {P : Go.Program} {T : Tab} {w0 w : World} {I0 I : Nat → Nat → Prop} {B : Nat → Value} {mem : Mem}
theorem Cu (hT : T.Ok P) {t k : Nat} {a b : A} {u v : Value} {r : Bool} (ht : T.nilk t = some k) (ha : RV B w I a u) (hb : RV B w I b v) (h : eqNil k a b = some r) (x y : Operand) :
 (Op.equal t u v).run P w = .ok r w ∧ (∀ op, (eqGuard op t x y u v).run P w = .ok () w) ∧ (∀ op : BinOp, op = .eql ∨ op = .neq → binOp op t u v = (match op with | .eql => do pure (.bool (← Op.equal t u v)) | _ => do pure (.bool (!(← Op.equal t u v))))) := by
 obtain ⟨d, hd, hk⟩ := hT.nilk t k ht
 unfold eqNil at h
 show (Op.equalIn (9999 + 1) t _ _).run P w = _ ∧ _
 split at h
 all_goals first | (cases h; done) | skip
 all_goals split at h <;> cases h
 all_goals rename_i e; subst e
 all_goals cases d <;> simp only [Em, Option.some.injEq, reduceCtorEq] at hk
 all_goals first | (exfalso; omega) | skip
 ·cases ha; cases hb
  exact ⟨by unfold Op.equalIn; simp [run_underlying hd], fun op => by unfold eqGuard; cases op <;> simp, fun op h => by rcases h with rfl | rfl <;> rfl⟩
 ·obtain ⟨b', -, rfl⟩ := ha; cases hb
  exact ⟨by unfold Op.equalIn; simp [run_underlying hd], fun op => by unfold eqGuard; cases op <;> simp, fun op h => by rcases h with rfl | rfl <;> rfl⟩
 ·obtain ⟨b', off, vs, rfl, -⟩ := ha; cases hb
  exact ⟨by unfold Op.equalIn; simp [run_underlying hd], fun op => by unfold eqGuard; cases op <;> simp, fun op h => by rcases h with rfl | rfl <;> rfl⟩
 ·obtain ⟨b', off, n, cap, -, rfl⟩ := ha; cases hb
  exact ⟨by unfold Op.equalIn; simp [run_underlying hd], fun op => by unfold eqGuard; cases op <;> simp, fun op h => by rcases h with rfl | rfl <;> rfl⟩
 ·cases ha; cases hb
  exact ⟨by unfold Op.equalIn; simp [run_underlying hd], fun op => by unfold eqGuard; cases op <;> simp, fun op h => by rcases h with rfl | rfl <;> rfl⟩
 ·obtain ⟨-, a', n, cap, rfl⟩ := ha; cases hb
  exact ⟨by unfold Op.equalIn; simp [run_underlying hd], fun op => by unfold eqGuard; cases op <;> simp, fun op h => by rcases h with rfl | rfl <;> rfl⟩
 ·cases ha; cases hb
  exact ⟨by unfold Op.equalIn; simp [run_underlying hd], fun op => by unfold eqGuard; cases op <;> simp, fun op h => by rcases h with rfl | rfl <;> rfl⟩
 ·obtain ⟨-, r, rfl⟩ := ha; cases hb
  exact ⟨by unfold Op.equalIn; simp [run_underlying hd], fun op => by unfold eqGuard; cases op <;> simp, fun op h => by rcases h with rfl | rfl <;> rfl⟩
 ·cases ha; cases hb
  exact ⟨by unfold Op.equalIn; simp [run_underlying hd], fun op => by unfold eqGuard; cases op <;> simp, fun op h => by rcases h with rfl | rfl <;> rfl⟩
 ·cases ha; cases hb
  exact ⟨by unfold Op.equalIn; simp [run_underlying hd], fun op => by unfold eqGuard; cases op <;> simp, fun op h => by rcases h with rfl | rfl <;> rfl⟩
 ·obtain ⟨ps, rfl, -⟩ := ha; cases hb
  exact ⟨by unfold Op.equalIn; simp [run_underlying hd], fun op => by unfold eqGuard; cases op <;> simp, fun op h => by rcases h with rfl | rfl <;> rfl⟩
 ·obtain ⟨u', rfl, -⟩ := ha; cases hb
  exact ⟨by unfold Op.equalIn; simp [run_underlying hd], fun op => by unfold eqGuard; cases op <;> simp, fun op h => by rcases h with rfl | rfl <;> rfl⟩
theorem RP (hT : T.Ok P) {op : BinOp} {t : TypeId} {x y : Operand} {a b : A} {u v : Value} {r : C} (ha : RV B w I a u) (hb : RV B w I b v) (h : bin (T.bool t) (T.nilk t) op a b = some r) :
 ∃ z, (do eqGuard op t x y u v; binOp op t u v : Sem Value).run P w = .ok z w ∧ RC w I z r := by
 unfold bin at h
 split at h
 ·rename_i k n k' m
  have hna := (RC.toInt ha).2
  cases ha; cases hb
  have hg : (eqGuard op t x y (.int k n) (.int k' m)).run P w = .ok () w := by unfold eqGuard; cases op <;> simp
  simp only [Sem.run_bind, hg, Result.andThen_ok]
  split at h
  ·unfold mG at h
   simp only at h
   split at h
   ·cases h
   ·rename_i hm
    cases h
    simp only [binOp, Op.shift, if_neg hm, Sem.run_pure]
    exact ⟨_, rfl, .int (vY _ _)⟩
  ·unfold mG at h
   simp only at h
   split at h
   ·cases h
   ·rename_i hm
    cases h
    simp only [binOp, Op.shift, if_neg hm, Sem.run_pure]
    exact ⟨_, rfl, .int (QW hna)⟩
  ·rename_i ns1 ns2
   split at h
   ·rename_i e
    subst e
    unfold iX at h
    split at h
    case h_10 =>
     split at h
     ·cases h
     ·rename_i hm; cases h;simp only [binOp, Op.intDiv, hm, ne_eq, not_true_eq_false, if_false, Sem.run_pure];exact ⟨_, rfl, .int (vY _ _)⟩
    case h_11 =>
     split at h
     ·cases h
     ·rename_i hm; cases h;simp only [binOp, Op.intDiv, hm, ne_eq, not_true_eq_false, if_false, Sem.run_pure];exact ⟨_, rfl, .int (Q6 hna)⟩
    all_goals cases h
    all_goals simp only [binOp, Op.intArith, Op.intCmp, Op.intBits, ne_eq, not_true_eq_false, if_false, Sem.run_pure]
    all_goals refine ⟨_, rfl, ?_⟩
    all_goals first
     | exact .int (vY _ _)
     | (rw [show (n == m) = decide (n = m) by simp [BEq.beq]]; exact .bool)
     | (rw [show (n != m) = !decide (n = m) by simp [bne, BEq.beq]]; exact .bool)
     | exact .bool
   ·cases h
 ·rename_i s1 s2
  have z1 := (RC.toStr ha).2
  have z2 := (RC.toStr hb).2
  cases ha; cases hb
  have hg : (eqGuard op t x y (.string s1) (.string s2)).run P w = .ok () w := by unfold eqGuard; cases op <;> simp
  simp only [Sem.run_bind, hg, Result.andThen_ok]
  unfold oo at h
  split at h
  case h_7 =>
   split at h
   ·rename_i hz;cases h
    have : ¬ (((s1.size + s2.size : Nat) : Int) > IntKind.i64.max) := by
     unfold gP at hz;simp [IntKind.max, IntKind.signed, IntKind.bits];omega
    simp only [binOp, Op.stringOp, if_neg this, Sem.run_pure];exact ⟨_, rfl, .str (by simpa using hz)⟩
   ·cases h
  all_goals cases h
  all_goals simp only [binOp, Op.stringOp, Sem.run_pure]
  all_goals exact ⟨_, rfl, .bool⟩
 ·rename_i s1 s2
  split at h
  ·rename_i hb2
   have hu := hT.bool t hb2
   cases ha; cases hb
   have hg : (eqGuard op t x y (.bool s1) (.bool s2)).run P w = .ok () w := by unfold eqGuard; cases op <;> simp
   have he : (Op.equal t (.bool s1) (.bool s2)).run P w = .ok (s1 == s2) w := by
    show (Op.equalIn (9999 + 1) t _ _).run P w = _;unfold Op.equalIn;simp [run_underlying hu]
   simp only [Sem.run_bind, hg, Result.andThen_ok]
   unfold vB at h
   split at h <;> cases h
   all_goals simp only [binOp, Sem.run_bind, he, Result.andThen_ok, Sem.run_pure]
   all_goals exact ⟨_, rfl, .bool⟩
  ·cases h
 ·split at h
  ·rename_i k hk
   unfold zJ at h
   split at h
   ·rename_i q hq
    cases h
    obtain ⟨h1, h2, h3⟩ := Cu hT hk ha hb hq x y
    simp only [Sem.run_bind, h2, Result.andThen_ok, h3 .eql (.inl rfl), h1, Sem.run_pure]
    exact ⟨_, rfl, .bool⟩
   ·rename_i q hq
    cases h
    obtain ⟨h1, h2, h3⟩ := Cu hT hk ha hb hq x y
    simp only [Sem.run_bind, h2, Result.andThen_ok, h3 .neq (.inr rfl), h1, Sem.run_pure]
    exact ⟨_, rfl, .bool⟩
   ·cases h
  ·cases h
theorem rX {s : Nat → A} {a : Act} {x : Option Operand} {d l y : Nat} {code : BoundsCode} (hev : ∀ x, RV B w I (ev s x) (a.eval x)) (h : tV d (x.map (ev s)) = some l) (hl : l ≤ y) :
 (match x.map a.eval with | some v => Instr.sliceBound v y code | none => pure d : Sem Nat).run P w = .ok l w := by
 cases x with
 | none => simp [tV] at h; subst h; simp
 | some x =>
   have hx := hev x;simp only [Option.map_some] at h ⊢;unfold tV at h;split at h
   ·rename_i e; cases e
   ·rename_i k n e;cases e' : ev s x <;> rw [e'] at e <;> cases e
    rw [e'] at hx;split at h
    ·rename_i h0;cases h
     rw [(RC.toInt hx).1];have : n ≤ (y : Int) := by omega
     simp [Instr.sliceBound, asIntOf, h0, this]
    ·cases h
   ·cases h
theorem PE {a : Option Addr} {len cap n : Nat} {xs : List (List C)} (hr : RC w I (.slice a len cap) (.sl xs)) {l h : Nat} (hlh : l ≤ h) (hh : h ≤ xs.length) (hn : l = 0 ∨ ∀ x ∈ xs, x.length = n) :
 RC w I (.slice (if cap = l then a else a.map (·.add (l * n))) (h - l) (cap - l)) (.sl ((xs.take h).drop l)) := by
 cases hr with
 | @sl _ _ _ e _ f h1 h2 h3 h4 h5 h6 =>
   have el : ∀ (i : Nat) x, ((xs.take h).drop l)[i]? = some x → xs[l + i]? = some x := fun i x hx => by
    rw [List.getElem?_drop, List.getElem?_take] at hx;split at hx
    ·exact hx
    ·cases hx
   refine .sl (e := e) (fun i j => f (l + i) j) (by rw [List.length_drop, List.length_take]; omega) (by omega) (by omega) (fun x hx => h4 x (List.mem_of_mem_take (List.mem_of_mem_drop hx))) (fun i x hx => ?_) (fun i j x c hx hj => h6 _ _ _ _ (el i x hx) hj);have hx' := el i x hx;obtain ⟨b, off, rfl, hc⟩ := h5 _ _ hx';have hlt := (List.getElem?_eq_some_iff.1 hx').1;refine ⟨b, off + l * n, ?_, fun j hj => ?_⟩
   ·rw [if_neg (by omega)];simp [kg]
   ·have he : l * n = l * e := by
     rcases hn with rfl | hn
     ·simp
     ·rw [← hn x (List.mem_of_getElem? hx'), h4 x (List.mem_of_getElem? hx')]
    have := hc j hj;rw [he, show off + l * e + i * e + j = off + (l + i) * e + j by rw [Nat.add_mul]; omega];exact this
theorem QS (hT : T.Ok P) {s : Nat → A} {a : Act} {ty len : Nat} {parts : Array (Nat × Operand)} {e n : Nat} {zs xs : List C} (hm : MR w0 I0 B I mem w) (hev : ∀ x, RV B w I (ev s x) (a.eval x)) (he : T.elem ty = some (e, n)) (hz : yH T e = some zs) (hh : zs.length = n ∧ 0 < len ∧ len * n ≤ 2 ^ 24)
 (hf : oU (fun i => some (i * n, n)) (List.replicate len zs).flatten (parts.toList.map fun p => (p.1, j3 mem (ev s p.2))) = some xs) :
 ∃ us, (Instr.buildSlice ty len (parts.map fun p => (p.1, a.eval p.2))).run P w = .ok (.slice (some ⟨w.heap.size, 0, none⟩) len len) (w.alloc (.cells us.toArray e)) ∧ RCs w I us xs ∧ us.length = len * n ∧ 0 < n := by
 obtain ⟨hu, hn0, ei, hei, hes⟩ := hT.elem _ _ _ he
 unfold yH at hz
 split at hz
 ·rename_i vs hvs
  obtain ⟨i, z, hi, hzz, hc, h1⟩ := hT.zero e vs hvs
  have hie : i = ei := Option.some.inj (hi.symm.trans hei)
  subst hie
  have hrc : RCs w I vs zs := kY (mem := fun _ => none) (B := B) (I := I) (I0 := I0) (w := w) (w0 := w0) ⟨hm.below, hm.glob, hm.base, hm.old, hm.there, fun _ _ h => absurd h (bV _), fun _ _ h => absurd h (bV _), fun _ _ _ _ h => absurd h (bV _), fun _ _ h => absurd h (bV _)⟩ hz (ig h1)
  have hvl : vs.length = n := hrc.length.trans hh.1
  have hbase : RCs w I (List.replicate len vs).flatten (List.replicate len zs).flatten := by
   exact abq
  obtain ⟨us, h2, h3, h4⟩ := wJ hm hev parts.toList _ _ xs hbase hf
  rw [gT hvl] at h4
  have hzr : (zeroValue e).run P w = .ok z w := by simp [zeroValue, typeInfo, hi, hzz]
  have hszr : (sizeOf e).run P w = .ok n w := by simp [sizeOf, typeInfo, hi, hes]
  have hbz : (Array.range (len * n)).map (z.cells[· % z.cells.size]!) = (List.replicate len vs).flatten.toArray := by
   exact YQ
  have hrun : (Instr.buildSlice ty len (parts.map fun p => (p.1, a.eval p.2))).run P w = .ok (.slice (some ⟨w.heap.size, 0, none⟩) len len) (w.alloc (.cells us.toArray e)) := by
   exact Zc
  exact ⟨us, hrun, h3, h4, hn0⟩
 ·cases hz
theorem Rs (hT : T.Ok P) {s : Nat → A} {a : Act} {id : Nat} {r : A} {ob : Option O} {o : Oper} (hm : MR w0 I0 B I mem w) (hs : ∀ t, RV B w I (s t) (a.tmps.getD t undef)) (hl : ∀ t, ∀ j ∈ (s t).ids, (mem j).isSome = true)
 (hid : ob.isSome = true → mem id = none) (hq : qv1 T s mem id o.op = some (r, ob)) :
 ∃ v w' B' I', (execOp a.eval o).run P w = .ok (.value v) w' ∧ MR w0 I0 B' I' (mem.put id ob) w' ∧ Below w.heap.size w w' ∧ (∀ b p, I b p → I' b p) ∧ (∀ j, (mem j).isSome = true → B' j = B j) ∧ RV B' w' I' r v ∧
   ∀ j ∈ r.ids, (mem.put id ob j).isSome = true := by
 have hev : ∀ x, RV B w I (ev s x) (a.eval x) := gM hs
 have hel : ∀ x, ∀ j ∈ (ev s x).ids, (mem j).isSome = true := uq hl
 -- an operation that changes nothing
 have same : ∀ {v : Value} {r : A}, (execOp a.eval o).run P w = .ok (.value v) w → RV B w I r v → (∀ j ∈ r.ids, (mem j).isSome = true) → 
  ∃ v w' B' I', (execOp a.eval o).run P w = .ok (.value v) w' ∧ MR w0 I0 B' I' mem w' ∧ Below w.heap.size w w' ∧ (∀ b p, I b p → I' b p) ∧ (∀ j, (mem j).isSome = true → B' j = B j) ∧ RV B' w' I' r v ∧ ∀ j ∈ r.ids, (mem j).isSome = true :=
  fun h1 h2 h3 => ⟨_, w, B, I, h1, hm, Below.refl _ _, fun _ _ h => h, fun _ _ => rfl, h2, h3⟩
 -- a new box
 have box : ∀ {ty : Nat} {l : List A} {vs : List Value}, mem id = none → RVs B w I l vs → (∀ j ∈ l.flatMap A.ids, (mem j).isSome = true) → (execOp a.eval o).run P w = .ok (.value (.pointer (some ⟨w.heap.size, 0, none⟩))) (w.alloc (.cells vs.toArray ty)) →
  ∃ v w' B' I', (execOp a.eval o).run P w = .ok (.value v) w' ∧ MR w0 I0 B' I' (upd mem id (some (.box ty l))) w' ∧ Below w.heap.size w w' ∧ (∀ b p, I b p → I' b p) ∧ (∀ j, (mem j).isSome = true → B' j = B j) ∧ RV B' w' I' (.ptr id 0) v ∧ ∀ j ∈ (A.ptr id 0).ids, (upd mem id (some (.box ty l)) j).isSome = true :=
  fun hid h1 h2 h3 => ⟨_, _, _, _, h3, hm.box hid h1 h2, (Below.refl _ _).alloc (Nat.le_refl _) _, fun _ _ h => h, fun j hj => upd_ne _ _ (fun e => by subst e; simp [hid] at hj), ⟨w.heap.size, upd_same .., rfl⟩,
   fun j hj => by simp [A.ids] at hj; subst hj; simp [upd_same]⟩
 cases hop : o.op with
 | move x =>
   exact YM
 | assign x =>
   exact YM
 | pick c x y =>
   simp only [hop, qv1] at hq;have hc := hev c;split at hq
   ·rename_i e; rw [e] at hc; cases hq;have e2 : a.eval c = .bool true := RC.toBool hc;exact same (by simp [execOp, hop, asBool, e2]) (hev x) (hel x)
   ·rename_i e; rw [e] at hc; cases hq;have e2 : a.eval c = .bool false := RC.toBool hc;exact same (by simp [execOp, hop, asBool, e2]) (hev y) (hel y)
   ·cases hq
 | box ty x =>
   simp only [hop, qv1] at hq;split at hq
   ·rename_i l e;cases hq
    refine box (hid rfl) (qd e (hev x)) (fun j hj => hel x j (mJ e j hj)) ?_;simp [execOp, hop, Instr.box, newVar, newRow]
   ·cases hq
 | alloc ty =>
   simp only [hop, qv1] at hq;split at hq
   ·rename_i vs e;cases hq
    obtain ⟨i, z, hi, hz, hc, h1⟩ := hT.zero ty vs e;refine box (hid rfl) (ig h1) (fun j hj => ?_) ?_
    ·simp only [List.mem_flatMap, List.mem_map] at hj;obtain ⟨_, ⟨x, -, rfl⟩, h⟩ := hj;simp [iH] at h
    ·simp [execOp, hop, Instr.alloc, zeroValue, typeInfo, hi, hz, newVar, newRow, hc]
   ·cases hq
 | load ty x =>
   simp only [hop, qv1] at hq;have hx := hev x;split at hq
   ·rename_i j off e;rw [e] at hx;split at hq
    ·rename_i ty' cells hj;split at hq
     ·rename_i r' e3;cases hq
      obtain ⟨b, vs, hB, hh, hv, -⟩ := hm.objs j _ hj;obtain ⟨b', hB', e2⟩ := hx;rw [hB] at hB';cases hB'
      have hcell : ∀ (k : Nat) v, (vs.drop off)[k]? = some v → w.cell? ⟨b, off + k, none⟩ = some v := fun k v hk => by
       exact Vk
      have hvd := hv.drop off;unfold ld at e3;split at e3
      ·rename_i n hty;split at e3
       ·rename_i hn;split at e3
        ·rename_i xs hxs;cases e3
         have hlen := hvd.length;refine same (v := .agg ((vs.drop off).take n).toArray) ?_ ⟨_, rfl, kY hm hxs (hvd.take n)⟩ (fun j hj => by simp [A.ids] at hj);exact aak
        ·split at e3
         ·rename_i ys hys;cases e3
          have hlen := hvd.length;obtain ⟨k1, k2⟩ := oC hys (hvd.take n);refine same (v := .agg ((vs.drop off).take n).toArray) ?_ ⟨_, rfl, k1, k2⟩ (fun i hi => hm.live j _ hj i ?_)
          ·exact aak
          ·obtain ⟨x, hx1, hx2⟩ := List.mem_flatMap.1 (mg hys i hi);exact List.mem_flatMap.2 ⟨x, List.mem_of_mem_drop (List.mem_of_mem_take hx1), hx2⟩
         ·cases e3
       ·cases e3
      ·rename_i n hty;cases hcd : cells.drop off with
       | nil => rw [hcd] at e3; cases e3
       | cons y ys =>
         rw [hcd] at e3 hvd;cases e3
         cases hvd2 : vs.drop off with
         | nil => rw [hvd2] at hvd; exact hvd.elim
         | cons u us =>
           rw [hvd2] at hvd;have hc0 : w.cell? ⟨b, off, none⟩ = some u := by have := hcell 0 u (by rw [hvd2]; rfl); simpa using this
           refine same (v := u) ?_ hvd.1.1 (fun i hi => hm.live j _ hj i ?_)
           ·exact aaD
           ·have : r ∈ cells := List.mem_of_mem_drop (by rw [hcd]; simp);exact List.mem_flatMap.2 ⟨r, this, hi⟩
      ·cases e3
     ·cases hq
    ·cases hq
   ·rename_i xs e;rw [e] at hx;obtain ⟨b, off, vs, e2, hv, hc⟩ := hx;split at hq
    ·rename_i r' e3;cases hq
     unfold ldR at e3;split at e3
     ·rename_i n hty;split at e3
      ·rename_i hn;cases e3
       have hlen := hv.length;refine same (v := .agg (vs.take n).toArray) ?_ ⟨_, rfl, hv.take n⟩ (fun j hj => by simp [A.ids] at hj);simp only [execOp, hop, e2, Instr.loadAt, Instr.sureAddr, Sem.run_bind, Sem.run_pure, Result.andThen_ok];rw [lV hT hty (b := b) (off := off) (cs := vs.take n) Ah (fun k v hk => ?_)]
       ·rfl
       ·rw [List.getElem?_take] at hk;split at hk
        ·exact (hc k v hk).2
        ·cases hk
      ·cases e3
     ·rename_i n hty;split at e3
      ·rename_i y ys;cases e3
       cases vs with
       | nil => exact hv.elim
       | cons u us =>
         have hc0 : w.cell? ⟨b, off, none⟩ = some u := by have := (hc 0 u rfl).2; simpa using this
         refine same (v := u) ?_ hv.1 (fun j hj => by simp [A.ids] at hj);exact aaD
      ·cases e3
     ·cases e3
    ·cases hq
   ·cases hq
 | fieldAddr ty x f =>
   simp only [hop, qv1] at hq;have hx := hev x;split at hq
   ·rename_i o' n g ho;split at hq
    ·rename_i j off e;cases hq
     rw [e] at hx;obtain ⟨b, h1, h2⟩ := hx;refine same (v := .pointer (some ⟨b, off + o', none⟩)) ?_ ⟨b, h1, rfl⟩ (fun i hi => hel x i (by rw [e]; exact hi));exact Jr
    ·rename_i xs e;cases hq
     rw [e] at hx;obtain ⟨b, off, vs, h2, hv, hc⟩ := hx;refine same (v := .pointer (some ⟨b, off + o', none⟩)) ?_ ⟨b, off + o', vs.drop o', rfl, hv.drop o', fun j x hj => ?_⟩ (fun i hi => by simp [A.ids] at hi)
     ·exact Jr
     ·rw [List.getElem?_drop] at hj;rw [Nat.add_assoc];exact hc _ _ hj
    ·cases hq
   ·cases hq
 | field ty x f =>
   simp only [hop, qv1] at hq;have hx := hev x;split at hq
   ·rename_i o' n xs ho e;cases hq
    rw [e] at hx;obtain ⟨vs, h2, hv⟩ := hx;refine same (v := .agg ((vs.drop o').take n).toArray) ?_ ⟨_, rfl, (hv.drop o').take n⟩ (fun i hi => by simp [A.ids] at hi);exact OC
   ·rename_i o' n xs ho e;rw [e] at hx;obtain ⟨vs, h2, hv⟩ := hx;split at hq
    ·rename_i y hy;cases hq
     obtain ⟨v, hv1, hv2⟩ := hv.at o' y hy;refine same (v := v) ?_ hv2 (fun i hi => by simp [A.ids] at hi);exact Wn
    ·cases hq
   ·cases hq
 | indexAddr ty x i =>
   simp only [hop, qv1] at hq;have hx := hev x;have hi := hev i;split at hq
   ·rename_i et n xs k kn he hxs hk;rw [hk] at hi;have hkv : a.eval i = .int k kn := (RC.toInt hi).1;split at hq
    ·rename_i h0;split at hq
     ·rename_i cs hcs;split at hq
      ·rename_i hcl;cases hq
       have hrc := ku hm hxs hx;generalize hax : a.eval x = xv at hrc;cases hrc with
       | @sl aa n' cap e' xs f hn hc hmx hln ha hr =>
         obtain ⟨b, off, rfl, hcells⟩ := ha _ _ hcs;have hlt := (List.getElem?_eq_some_iff.1 hcs).1;have hee : e' = n := by rw [← hcl, hln cs (List.mem_of_getElem? hcs)]
         subst hee;refine same (v := .pointer (some ⟨b, off + kn.toNat * e', none⟩)) ?_ ⟨b, off + kn.toNat * e', (List.range e').map (f kn.toNat), rfl, RCs.of (by simp [hcl]) (fun j v y hj hy => ?_), fun j v hj => ?_⟩ (fun i hi => by simp [A.ids] at hi)
         ·simp only [execOp, hop, hax, hkv, Sem.run_bind];rw [ug hT he h0 (by omega)];rfl
         ·rw [List.getElem?_map] at hj;have hj' := (List.getElem?_eq_some_iff.1 hy).1;rw [List.getElem?_range (by omega)] at hj;cases hj
          exact hr _ _ _ _ hcs hy
         ·rw [List.getElem?_map] at hj;by_cases hje : j < e'
          ·rw [List.getElem?_range hje] at hj;cases hj
           exact hcells j hje
          ·rw [List.getElem?_eq_none (by simp; omega)] at hj;cases hj
      ·cases hq
     ·cases hq
    ·cases hq
   ·cases hq
 | binOp op ty x y yt =>
   simp only [hop, qv1] at hq;split at hq
   ·rename_i r' hr;cases hq
    obtain ⟨z, h1, h2⟩ := RP hT (x := x) (y := y) (P := P) (hev x) (hev y) hr;refine same (v := z) ?_ h2 (fun i hi => by simp [A.ids] at hi);simp only [execOp, hop];rw [Sem.run_bind, h1];rfl
   ·cases hq
 | unOp op ty x =>
   cases op with
   | not =>
     simp only [hop, qv1] at hq;have hx := hev x;split at hq
     ·rename_i b e;cases hq
      rw [e] at hx;have hxv : a.eval x = .bool b := RC.toBool hx;exact same (v := .bool !b) (by simp [execOp, hop, hxv, Op.unary]) .bool (fun i hi => by simp [A.ids] at hi)
     ·cases hq
   | _ => simp [hop, qv1] at hq
 | extract x i =>
   simp only [hop, qv1] at hq;have hx := hev x;have RTat : ∀ {vs : List Value} {xs : List (Bool × List C)}, RTs w I vs xs → ∀ (j : Nat) y, xs[j]? = some y → ∃ v, vs[j]? = some v ∧ RT w I v y := by
    intro vs;induction vs with
    | nil => intro xs h j y hy; cases xs with | nil => simp at hy | cons _ _ => exact h.elim
    | cons v vs ih =>
      intro xs h j y hy;cases xs with
      | nil => exact h.elim
      | cons z zs =>
        cases j with
        | zero => simp at hy; subst hy; exact ⟨v, rfl, h.1⟩
        | succ j => simpa using ih h.2 j y (by simpa using hy)
   split at hq
   ·rename_i xs e;rw [e] at hx;obtain ⟨vs, h1, h2⟩ := hx;split at hq
    ·rename_i us hus;cases hq
     obtain ⟨v, hv, hr⟩ := RTat h2 i _ hus;obtain ⟨ws, rfl, hr⟩ := hr;exact same (v := .agg ws.toArray) Vh ⟨_, rfl, hr⟩ (fun i hi => by simp [A.ids] at hi)
    ·rename_i y hus;cases hq
     obtain ⟨v, hv, hr⟩ := RTat h2 i _ hus;obtain ⟨y', e', hr⟩ := hr;cases e'
     exact same (v := v) Vh hr (fun i hi => by simp [A.ids] at hi)
    ·cases hq
   ·cases hq
 | makeFunc fn first caps =>
   cases fn with
   | func f =>
     simp only [hop, qv1] at hq;split at hq
     ·rename_i hf;split at hq
      ·rename_i ids hids;cases hq
       obtain ⟨h1, h2⟩ := yX hev hids;have hf' : first = #[] := by simpa using hf
       subst hf';refine same (v := .func (.func f) #[] (ids.map B).toArray) ?_ rfl (fun j hj => ?_)
       ·simp only [execOp, hop, Instr.makeFunc, Sem.run_bind, Sem.run_pure, Result.andThen_ok];rw [← h1];rw [← List.map_toArray];simp
       ·obtain ⟨x, hx⟩ := h2 j hj;exact hel x j hx
      ·cases hq
     ·cases hq
   | _ => simp [hop, qv1] at hq
 | nilCheck x =>
   simp only [hop, qv1] at hq;have hx := hev x;have hlx := hel x;split at hq
   ·rename_i j off e;cases hq
    rw [e] at hx hlx;obtain ⟨b, h1, h2⟩ := hx;exact same (v := .pointer (some ⟨b, off, none⟩)) (by simp [execOp, hop, h2]) ⟨b, h1, rfl⟩ hlx
   ·rename_i xs e;cases hq
    rw [e] at hx hlx;obtain ⟨b, off, vs, h2, h3⟩ := hx;exact same (v := .pointer (some ⟨b, off, none⟩)) (by simp [execOp, hop, h2]) ⟨b, off, vs, rfl, h3⟩ hlx
   ·rename_i f ids e;cases hq
    rw [e] at hx hlx;exact same (v := .func (.func f) #[] (ids.map B).toArray) (by simp [execOp, hop, show a.eval x = _ from hx]) rfl hlx
   ·cases hq
 | slice ty x lo hi mx =>
   cases mx with
   | some m => simp [hop, qv1] at hq
   | none =>
     simp only [hop, qv1] at hq;have hx := hev x;split at hq
     ·rename_i et n xs he hxs;have hrc := ku hm hxs hx;obtain ⟨hu, -, i', hi', hn'⟩ := hT.elem _ _ _ he;split at hq
      ·rename_i r' hr;cases hq
       generalize hax : a.eval x = xv at hrc;have hsh : ∃ aa len cap, xv = .slice aa len cap := by cases hrc; exact ⟨_, _, _, rfl⟩
       obtain ⟨aa, len, cap, rfl⟩ := hsh;have hlen : xs.length = len ∧ len ≤ cap := by cases hrc; exact ⟨by assumption, by assumption⟩
       unfold zm at hr;split at hr
       ·rename_i l h el eh;split at hr
        ·rename_i hh;cases hr
         have hb := PE hrc (n := n) hh.1 hh.2.1 hh.2.2;refine same (v := _) ?_ hb (fun i hi => by simp [A.ids] at hi);have bl := rX (P := P) (w := w) (y := h) (code := .sliceB) hev el hh.1;have bh : ∀ code, (match hi.map a.eval with | some v => Instr.sliceBound v cap code | none => pure len : Sem Nat).run P w = .ok h w := fun code => by
          rw [hlen.1] at eh;exact rX hev eh (by omega)
         simp only [execOp, hop, hax, Instr.sliceAt, Sem.run_bind, run_underlying hu, Result.andThen_ok, Instr.slice, Instr.sliceBounds, Sem.run_pure, Option.isSome_none, Option.map_none];have bh' := bh .sliceAcap;have hsz : (sizeOf et).run P w = .ok n w := by simp [sizeOf, typeInfo, hi', hn']
         cases hi <;> cases lo <;> simp only [Option.map_none, Option.map_some, Sem.run_pure, Result.ok.injEq, and_true] at bl bh' ⊢
         all_goals (try subst bl)
         all_goals (try subst bh')
         all_goals simp [*]
        ·cases hr
       ·cases hr
      ·cases hq
     ·cases hq
 | build ty parts =>
   simp only [hop, qv1] at hq;split at hq
   ·rename_i l zs hl0 hz;split at hq
    ·rename_i xs hf;cases hq
     obtain ⟨fs, hu, hfs⟩ := hT.fields ty l hl0;unfold yH at hz;split at hz
     ·rename_i vs hvs;obtain ⟨i, z, hi, hzz, hc, h1⟩ := hT.zero ty vs hvs;have hrc : RCs w I vs zs := by
       have := kY (mem := fun _ => none) (B := B) (I := I) (I0 := I0) (w := w) (w0 := w0) ⟨hm.below, hm.glob, hm.base, hm.old, hm.there, fun _ _ h => absurd h (bV _), fun _ _ h => absurd h (bV _), fun _ _ _ _ h => absurd h (bV _), fun _ _ h => absurd h (bV _)⟩ hz (ig h1);exact this
      obtain ⟨us, h2, h3, h4⟩ := wJ hm hev parts.toList vs zs xs hrc hf;refine same (v := .agg us.toArray) ?_ ⟨_, rfl, h3⟩ (fun i hi => by simp [A.ids] at hi);exact zt6
     ·cases hz
    ·cases hq
   ·cases hq
 | buildSlice ty len parts =>
   simp only [hop, qv1] at hq;split at hq
   ·cases hq
   split at hq
   ·rename_i e n he;split at hq
    ·rename_i zs hz;split at hq
     ·rename_i hh;split at hq
      ·rename_i xs hf;cases hq
       obtain ⟨hu, hn0, ei, hei, hes⟩ := hT.elem _ _ _ he;unfold yH at hz;split at hz
       ·rename_i vs hvs;obtain ⟨i, z, hi, hzz, hc, h1⟩ := hT.zero e vs hvs;have hie : i = ei := Option.some.inj (hi.symm.trans hei);subst hie;have hrc : RCs w I vs zs := kY (mem := fun _ => none) (B := B) (I := I) (I0 := I0) (w := w) (w0 := w0) ⟨hm.below, hm.glob, hm.base, hm.old, hm.there, fun _ _ h => absurd h (bV _), fun _ _ h => absurd h (bV _), fun _ _ _ _ h => absurd h (bV _), fun _ _ h => absurd h (bV _)⟩ hz (ig h1);have hvl : vs.length = n := hrc.length.trans hh.1;have hbase : RCs w I (List.replicate len vs).flatten (List.replicate len zs).flatten := by
         exact abq
        obtain ⟨us, h2, h3, h4⟩ := wJ hm hev parts.toList _ _ xs hbase hf;rw [gT hvl] at h4;have hzr : (zeroValue e).run P w = .ok z w := by simp [zeroValue, typeInfo, hi, hzz]
        have hszr : (sizeOf e).run P w = .ok n w := by simp [sizeOf, typeInfo, hi, hes]
        have hbz : (Array.range (len * n)).map (z.cells[· % z.cells.size]!) = (List.replicate len vs).flatten.toArray := by
         exact YQ
        have hrun : (Instr.buildSlice ty len (parts.map fun p => (p.1, a.eval p.2))).run P w = .ok (.slice (some ⟨w.heap.size, 0, none⟩) len len) (w.alloc (.cells us.toArray e)) := by
         exact Zc
        have hb : Below w.heap.size w (w.alloc (.cells us.toArray e)) := (Below.refl _ _).alloc (Nat.le_refl _) _;have hmore : ∀ b o, I b o → (I b o ∨ (b = w.heap.size ∧ o < us.length)) := fun _ _ h => .inl h
        have hE := hm.ext hb hmore;have hlen : xs.length = len * n := by rw [← h3.length, h4]
        have hlt : ∀ {i j : Nat}, i < len → j < n → i * n + j < len * n := fun {i j} hi hj => by
         have : (i + 1) * n ≤ len * n := Nat.mul_le_mul_right _ hi;exact Ot
        have hchunk : ∀ (i : Nat) x, (chunks n len xs)[i]? = some x → i < len ∧ x = (xs.drop (i * n)).take n := fun i x hx => by
         rw [rY] at hx;rw [List.getElem?_map] at hx;by_cases hi : i < len
         ·rw [List.getElem?_range hi] at hx; cases hx; exact ⟨hi, rfl⟩
         ·rw [List.getElem?_eq_none (by simp; omega)] at hx; cases hx
        have hxl : ∀ {i : Nat}, i < len → ((xs.drop (i * n)).take n).length = n := fun {i} hi => by
         have : (i + 1) * n ≤ len * n := Nat.mul_le_mul_right _ hi;rw [Nat.add_mul] at this;rw [List.length_take, List.length_drop, hlen]; omega
        refine ⟨.slice (some ⟨w.heap.size, 0, none⟩) len len, _, B, _, ?_, hm.grow hb hmore (fun b o h => h.imp (fun k => k) fun ⟨k1, _⟩ => by subst k1; exact ⟨Nat.le_refl _, by simp⟩), hb, hmore, fun _ _ => rfl, ?_, fun i hi => by simp [A.ids] at hi⟩
        ·exact Vz
        ·refine .sl (e := n) (fun i j => us.getD (i * n + j) undef) (by simp [rY]) (Nat.le_refl _) ?_ (fun x hx => ?_) (fun i x hx => ⟨w.heap.size, 0, rfl, fun j hj => ?_⟩) (fun i j x c hx hj => ?_)
         ·unfold maxLen; have : len * 1 ≤ len * n := Nat.mul_le_mul_left _ hn0; omega
         ·obtain ⟨i, hxi⟩ := List.getElem?_of_mem hx;obtain ⟨hil, rfl⟩ := hchunk i x hxi;exact hxl hil
         ·have hi := (hchunk i x hx).1;have := hlt hi hj;rw [Nat.zero_add];refine ⟨.inr ⟨rfl, by omega⟩, ?_⟩;have hnew : (w.alloc (.cells us.toArray e)).heap[w.heap.size]? = some (.cells us.toArray e) := heap_alloc_new _ _;simp only [World.cell?, hnew];have : i * n + j < us.length := by omega
          simp [this]
         ·obtain ⟨hi, rfl⟩ := hchunk i x hx;have hj' : j < n := by have := (List.getElem?_eq_some_iff.1 hj).1; rw [hxl hi] at this; exact this
          rw [List.getElem?_take, if_pos hj', List.getElem?_drop] at hj;obtain ⟨v, h5, h6⟩ := h3.at _ _ hj;simp [h5];exact h6.mono hE
       ·cases hz
      ·cases hq
     ·cases hq
    ·cases hq
   ·cases hq
 | call c =>
   simp only [hop, qv1] at hq;split at hq
   ·rename_i x t hc hargs hty;have hx := hev x;split at hq
    ·rename_i et xs he hxs;cases hq
     obtain ⟨hu, -, i', hi', hn'⟩ := hT.elem _ _ _ he;have hrc := ku hm hxs hx;generalize hax : a.eval x = xv at hrc;cases hrc with
     | @sl aa n cap e _ f hn hcp hmx hln ha hr =>
       obtain ⟨cal, args, tys⟩ := c;simp only at hc hargs hty;subst hc;have ea : args = #[x] := by rw [← Array.toArray_toList (xs := args), hargs]
       have et : tys = #[t] := by rw [← Array.toArray_toList (xs := tys), hty]
       subst ea et;refine same (v := .int .i64 xs.length) ?_ (.int ?_) (fun i hi => by simp [A.ids] at hi)
       ·simp [execOp, hop, resolve, invoke, builtin, Builtin.len_, hax, run_underlying hu, goInt, hn]
       ·rw [hn];simp [Lit.wf, IntKind.min, IntKind.max, IntKind.bits, IntKind.signed];unfold maxLen at hmx;omega
    ·cases hq
   ·cases hq
 | _ => simp [hop, qv1] at hq
end
end V
end Go.Proofs.YtgaipdillmleeaaGreat
end
