/- Joined by my own program, in build order: Va, Vb, Vc, Vc2. -/
import Derived.Test.YthhpcjoaogmhbaaGreatDoorG3
import Derived.WalkKit
import Derived.ProofKit
import Derived.Lib.Hide
import Derived.Laws.AppendOwn
import Derived.Deep.AppendLies
import Derived.OwnWalk
import Derived.Deep.OwnRows
import Derived.MapKept
import Derived.Laws.StructEq
set_option linter.unusedVariables false
set_option linter.unusedSimpArgs false
section
namespace Go.Proofs.YthhpcjoaogmhbaaGreatDoor
section
set_option linter.defProp false
variable {q p : Prop}
def zq1 (h:p:=by first | rfl | (simp only [av, aL, O.kill, A.kill, Nat.reduceEqDiff, reduceIte, Option.map_some, Option.map_none, List.map_cons, List.map_nil, ay, bB, eX, aR (show q + 1 < 9223372036854775808 by have := (hS c hc).2.1; omega)]; done)):=h
def zq2 (h:p:=by have h1 := (hS kc (List.mem_of_getElem? hkc)).1; have h2 := pz hS ((upX cs (cs.length + 1) 0 c.name).take k); have h3 := List.length_take_le k (upX cs (cs.length + 1) 0 c.name); simp only [List.length_map, dV]; omega):=h
def zq3 (h:p:=by simp only [uH, exb, simprocAttr, hc0, he, cb, bc, eb, be, ce, ec, Nat.add_left_cancel_iff, Nat.add_eq_left, Nat.left_eq_add, upd_same, aL, aM, A.kill, O.kill, List.map_cons, List.map_nil, Option.map_some] <;> rfl):=h
def zq4 (h:p:=by first | rfl | (simp only [av, aM, A.kill, aN, aO, Nat.reduceEqDiff, reduceIte, ay, bB, eX, aR (show q + 1 < 9223372036854775808 by have := (hS c hc).2.1; omega)]; done)):=h
def zq5 (h:p:=by simp only [exb, simprocAttr, hc0, he, cb, bc, eb, be, ce, ec, Nat.add_left_cancel_iff, Nat.add_eq_left, Nat.left_eq_add, upd_same, List.map_cons, List.length_cons, List.length_map, hz2, cStr, hi, hi2] <;> rfl):=h
def zq6 (h:p:=by intro j hj; simp only [O.ids] at hj; first | (rw [fF] at hj; cases hj) | (rw [← kL, fF] at hj; cases hj) | (simp [A.ids] at hj; done) | (simp [A.ids, av] at hj ⊢; simp [hj])):=h
def zq7 (h:p:=by simp only [exb, simprocAttr, hc0, he, cb, bc, eb, be, ce, ec, Nat.add_left_cancel_iff, Nat.add_eq_left, Nat.left_eq_add, upd_same, List.map_cons, List.length_cons, List.length_map, hz, hz2, cStr] <;> rfl):=h
def zq8 (h:p:=by simp only [exb, simprocAttr, hc0, he, cb, bc, eb, be, ce, ec, Nat.add_left_cancel_iff, Nat.add_eq_left, Nat.left_eq_add, upd_same, List.map_cons, List.length_cons, List.length_map, hz2, cStr, hi] <;> rfl):=h
def zq9 (h:p:=by first | rfl | (simp only [av, aL, O.kill, A.kill, Nat.reduceEqDiff, reduceIte, Option.map_some, Option.map_none, List.map_cons, List.map_nil, ay, hF, bB, eX]; done)):=h
def RF (h:p:=by first | rfl | (simp only [av, aM, A.kill, aN, aO, Nat.reduceEqDiff, reduceIte, h.ne, if_false, aR (show k + 1 < 9223372036854775808 by omega)]; done)):=h
def Nq (h:p:=by first | rfl | (simp only [av, aL, O.kill, A.kill, Nat.reduceEqDiff, reduceIte, Option.map_some, Option.map_none, List.map_cons, List.map_nil, ay, bB, eX]; done)):=h
def Ol (h:p:=by first | rfl | (simp only [av, aM, A.kill, aN, aO, Nat.reduceEqDiff, reduceIte, aR (show k + 1 < 9223372036854775808 by omega)]; done)):=h
def SB (h:p:=by simp only [exb, simprocAttr, hc0, he, cb, bc, eb, be, ce, ec, Nat.add_left_cancel_iff, Nat.add_eq_left, Nat.left_eq_add, upd_same, List.map_cons, cStr, h12, h02] <;> rfl):=h
def QW (h:p:=by first | (simp only [av, sD, DID, aN, aO, simprocAttr]; done) | (simp only [av, sD, DID, aN, aO, simprocAttr]; rfl)):=h
def Td (h:p:=by first | rfl | (simp only [av, aN, aO, Nat.reduceEqDiff, reduceIte, hset, aR (show k + 1 < 9223372036854775808 by omega)]; done)):=h
def Pq (h:p:=by simp only [exb, simprocAttr, BB.tabs, V.tabs, hc0, he, cb, bc, eb, be, ce, ec, Nat.add_left_cancel_iff, Nat.add_eq_left, Nat.left_eq_add, upd_same] <;> rfl):=h
def Tk (h:p:=by first | rfl | (simp only [av, aL, Nat.reduceEqDiff, reduceIte, hset, aR (show k + 1 < 9223372036854775808 by omega)]; done)):=h
def SF (h:p:=by simp only [exb, simprocAttr, hc0, he, cb, bc, eb, be, ce, ec, Nat.add_left_cancel_iff, Nat.add_eq_left, Nat.left_eq_add, upd_same, jd] <;> rfl):=h
def zU (h:p:=by simp only [uH, exb, simprocAttr, hc0, he, cb, bc, eb, be, ce, ec, Nat.add_left_cancel_iff, Nat.add_eq_left, Nat.left_eq_add, upd_same] <;> rfl):=h
def RL (h:p:=by first | rfl | (simp only [av, aM, A.kill, aN, aO, Nat.reduceEqDiff, reduceIte, ay, hF, bB, eX]; done)):=h
def SN (h:p:=by first | rfl | (simp only [av, aM, A.kill, aN, aO, Nat.reduceEqDiff, reduceIte, ce, be, cb, bc, eb, ec]; done)):=h
def sP (h:p:=by simp only [exb, simprocAttr, hc0, he, cb, bc, eb, be, ce, ec, Nat.add_left_cancel_iff, Nat.add_eq_left, Nat.left_eq_add, upd_same] <;> rfl):=h
def ND (h:p:=by first | rfl | (simp only [av, aM, A.kill, aN, aO, Nat.reduceEqDiff, reduceIte, ay, bB, eX]; done)):=h
def Px (h:p:=by first | rfl | (simp only [av, aM, A.kill, aN, aO, Nat.reduceEqDiff, reduceIte, List.length_map]; done)):=h
def PG (h:p:=by simp [A.ids, O.ids, av, ay, bB, eX, aR (show q + 1 < 9223372036854775808 by have := (hS c hc).2.1; omega)]):=h
def qp (h:p:=by simp only [exb, simprocAttr, aM, A.kill, jq, b4q, b6q, if_false, h0, h4, h6, hm4, hm6, cExpr, xD, fB] <;> rfl):=h
def PY (h:p:=by simp [A.ids, av, ay, bB, eX, aR (show q + 1 < 9223372036854775808 by have := (hS c hc).2.1; omega)]):=h
def zT (h:p:=by first | rfl | (simp only [av, aM, A.kill, aN, aO, Nat.reduceEqDiff, reduceIte]; done)):=h
def oN (h:p:=by simp only [exb, simprocAttr, aM, A.kill, jq, b4q, b6q, if_false, h0, h4, h6, hm4, hm6, cExpr, xD] <;> rfl):=h
def Sl (h:p:=by simp only [exb, simprocAttr, bB, jv, ql, ay, aS, List.set_cons_zero, List.set_cons_succ] <;> rfl):=h
def SI (h:p:=by simp [A.ids, av, hc0, he, cb, bc, eb, be, ce, ec, Nat.add_left_cancel_iff, ce, be, cb, bc, eb, ec]):=h
def Oj (h:p:=by first | rfl | (simp only [av, aN, aO, Nat.reduceEqDiff, reduceIte, hwr]; done)):=h
def SH (h:p:=by rw [ex]; exact List.mem_flatMap.2 ⟨y, List.mem_of_getElem? hy, by rw [tZ] at hi; exact hi⟩):=h
def ML (h:p:=by first | rfl | (simp only [av, aN, aO, Nat.reduceEqDiff, reduceIte]; done)):=h
def PD (h:p:=by simp only [exb, simprocAttr, tabs, V.tabs, hlt, cZ hx, dx, eZ, dO] <;> rfl):=h
def Sb (h:p:=by rw [ex]; exact List.mem_flatMap.2 ⟨y, List.mem_of_mem_drop (List.mem_of_mem_take hy1), hy2⟩):=h
def Te (h:p:=by simp only [exb, simprocAttr, bB, eX, kg, ay, hd, hge, cZ ho, aS] <;> rfl):=h
def SK (h:p:=by simp only [exb, simprocAttr, upd_same, aM, A.kill, jq, b7q, if_false, cExpr] <;> rfl):=h
def Sz (h:p:=by simp only [exb, simprocAttr, upd_same, hjb, hbj, hf2, uZ, hw11, hw01, hwa, hwb] <;> rfl):=h
def PZ (h:p:=by first | rfl | (simp only [av, aL, Nat.reduceEqDiff, reduceIte, hwr]; done)):=h
def Rs (h:p:=by simp only [exb, simprocAttr, tabs, V.tabs, hlt, cZ hx, cExpr, eZ] <;> rfl):=h
def LM (h:p:=by simp only [exb, simprocAttr, bB, jv, ql, ay, aS, dO] <;> rfl):=h
def Sq (h:p:=by simp only [exb, simprocAttr, bB, eX, kg, ay, cZ hy, aS] <;> rfl):=h
def Qg (h:p:=by first | rfl | (simp only [av, aL, Nat.reduceEqDiff, reduceIte]; done)):=h
def yI (h:p:=by simp [A.ids, av, hc0, he, cb, bc, eb, be, ce, ec, Nat.add_left_cancel_iff]):=h
def Lc (h:p:=by intro i hi; simp [A.ids] at hi; first | (subst hi; exact iI _ hjs) | done):=h
def PU (h:p:=by simp only [Op.operands, List.mem_toArray, List.mem_map]; exact ⟨p, hp, rfl⟩):=h
def RD (h:p:=by simp only [exb, simprocAttr, tabs, V.tabs, bB, vW, yA, ay] <;> rfl):=h
def Sm (h:p:=by simp only [Tryz.f41, bE, aD, toT, fin, exb, simprocAttr, h1, h2] <;> rfl):=h
def zV (h:p:=by repeat (first | exact Pf | refine Tq ?_ | refine Rf (hfar _) ?_)):=h
def SX (h:p:=by simp only [exb, simprocAttr, qg, JC, upd_same, jq, qj, hq, xZ] <;> rfl):=h
def SQ (h:p:=by simp only [Array.length_toList, List.length_cons, List.length_nil]; omega):=h
def Rm (h:p:=by simp only [exb, simprocAttr, bB, eX, kg, ay, hkn', hse'] <;> rfl):=h
def yH (h:p:=by simp only [wT, asL, asC, av, eb, if_false, if_true, eq_self] <;> rfl):=h
def P6 (h:p:=by rw [uT]; have := h.chain (k := 0) (by simp); simpa using this):=h
def Sw (h:p:=by simp only [exb, simprocAttr, kY, zeroMethod, aS, V.tabs] <;> rfl):=h
def Pm (h:p:=by first | rfl | simp only [av, sD, DID, Nat.reduceEqDiff, reduceIte]):=h
def Tg (h:p:=by simp only [exb, simprocAttr, aM, A.kill, jq, b7q, if_false] <;> rfl):=h
def qo (h:p:=by intro j hj; rw [List.mem_singleton] at hj; subst hj; exact ⟨_, _, rfl⟩):=h
def Oz (h:p:=by simp only [exb, simprocAttr, OO.tabs, V.tabs, upd_same, hjb, hbj] <;> rfl):=h
def Tj (h:p:=by first | rfl | (simp only [exb, simprocAttr, bB, eX, kg]; rfl)):=h
def OQ (h:p:=by simp only [List.length_map, List.length_cons, List.length_nil]; omega):=h
def JV (h:p:=by first | (simp only [av, sD, DID, dfs, simprocAttr]; done) | rfl):=h
def RZ (h:p:=by simp only [exb, simprocAttr, tabs, V.tabs, bB, vW, yA] <;> rfl):=h
def zW (h:p:=by simp only [av, cb, bc, eb, be, ce, ec, if_false]; exact hfar _):=h
def OT (h:p:=by first | rfl | simp only [av, DID, Nat.reduceEqDiff, reduceIte]):=h
def Sy (h:p:=by rw [ex]; exact List.mem_flatMap.2 ⟨y, List.mem_of_getElem? hy, hq⟩):=h
def yM (h:p:=by simp only [exb, simprocAttr, eT, fH, DID, eX, ay] <;> rfl):=h
def Tc (h:p:=by simp only [exb, simprocAttr, upd_same, hjb, hbj, hfd, V.tabs] <;> rfl):=h
def SE (h:p:=by simp only [exb, simprocAttr, bB, eX, kg, ay, hd] <;> rfl):=h
def Qh (h:p:=by show _ + _ + 1 ≤ _; have hf := hfit; simp [fq] at hf ⊢; omega):=h
def kP (h:p:=by simp only [exb, simprocAttr, bB, eX, kg, ay] <;> rfl):=h
def Tm (h:p:=by simp only [exb, simprocAttr, bB, tX, qX, ay] <;> rfl):=h
def Ni (h:p:=by simp only [exb, simprocAttr, bB, jv, ql, ay] <;> rfl):=h
def JL (h:p:=by simp only [Tryz.f5, bE, aD, toT, fin, exb, simprocAttr]):=h
def SY (h:p:=by simp only [exb, simprocAttr, X.tabs, V.tabs, hc1, hc2] <;> rfl):=h
def Og (h:p:=by simp only [exb, simprocAttr, ← hov, beq_self_eq_true] <;> rfl):=h
def R9 (h:p:=by have hb := hbytes; simp only [Nat.zero_add] at hb; omega):=h
def jy (h:p:=by simp only [exb, simprocAttr, h0, h4, h6, hm4, hm6] <;> rfl):=h
def ze (h:p:=by simp only [uH, exb, simprocAttr, C7.tabs, V.tabs] <;> rfl):=h
def OV (h:p:=by simp only [exb, simprocAttr, List.length_map, hd] <;> rfl):=h
def R8 (h:p:=by simp only [exb, simprocAttr, cZ hx, aS] <;> rfl):=h
def Qc (h:p:=by simp only [exb, simprocAttr, bB, eX, kg] <;> rfl):=h
def Si (h:p:=by simp [A.ids, O.ids, av, ay, hF, bB, eX]):=h
def RP (h:p:=by have := (hS kc (List.mem_of_getElem? hkc)).2.1; omega):=h
def QK (h:p:=by simp only [exb, simprocAttr, bB, tX, qX] <;> rfl):=h
def QX (h:p:=by simp only [exb, simprocAttr, cZ hx, ay] <;> rfl):=h
def Sn (h:p:=by simp only [exb, simprocAttr, cZ hx, bC] <;> rfl):=h
def Sd (h:p:=by have := (hS kc (List.mem_of_getElem? hkc)).1; omega):=h
def Tn (h:p:=by simp only [exb, simprocAttr, cZ hx, cStr] <;> rfl):=h
def Sj (h:p:=by simp only [exb, simprocAttr, List.length_map] <;> rfl):=h
def Ti (h:p:=by simp only [exb, simprocAttr, OO.tabs, V.tabs] <;> rfl):=h
def R7 (h:p:=by simp only [exb, simprocAttr, BB.tabs, V.tabs] <;> rfl):=h
def Fz (h:p:=by first | rfl | (simp only [exb, simprocAttr]; rfl)):=h
def QJ (h:p:=by simp only [exb, simprocAttr, wh, ay] <;> rfl):=h
def NU (h:p:=by simp [A.ids, O.ids, av, ay, bB, eX]):=h
def lN (h:p:=by simp only [exb, simprocAttr, ai, bi, an, bn] <;> rfl):=h
def R4 (h:p:=by simp only [exb, simprocAttr, upd_same, hjb, hbj]):=h
def yJ (h:p:=by simp only [av, cb, ce, if_false]; exact hc0):=h
def Qn (h:p:=by simp only [exb, simprocAttr, hsat, sD, DID] <;> rfl):=h
def Qj (h:p:=by simp only [exb, simprocAttr, hmat, sD, DID] <;> rfl):=h
def fQ (h:p:=by simp only [exb, simprocAttr, tabs, V.tabs] <;> rfl):=h
def Qx (h:p:=by simp only [exb, simprocAttr, hi, hi2, ckC] <;> rfl):=h
def QC (h:p:=by simp [A.ids, av, ay, hF, bB, eX]):=h
def fZ (h:p:=by have hf := hfit; simp [fq] at hf ⊢; omega):=h
def Qm (h:p:=by simp only [exb, simprocAttr, DID, ckC] <;> rfl):=h
def Ev (h:p:=by simp only [exb, simprocAttr, aS] <;> rfl):=h
def EL (h:p:=by simp [A.ids, av, ay, bB, eX]):=h
def QG (h:p:=by simp only [exb, simprocAttr, hi, hi2] <;> rfl):=h
def jL (h:p:=by simp only [exb, simprocAttr, sD, DID] <;> rfl):=h
def QE (h:p:=by simp [execOp, hop, h1, Instr.extract, hv]):=h
def sI (h:p:=by simp only [exb, simprocAttr, ay] <;> rfl):=h
def Ob (h:p:=by simp only [exb, simprocAttr, h1, h2] <;> rfl):=h
def NZ (h:p:=by simp only [exb, simprocAttr, ai, bi] <;> rfl):=h
def Qt (h:p:=by rw [fI hvl, fI hh.1]):=h
def jA (h:p:=by simp only [exb, simprocAttr, dz] <;> rfl):=h
def Qo (h:p:=by simp only [exb, simprocAttr, cExpr] <;> rfl):=h
def N8 (h:p:=by simp only [exb, simprocAttr, hge0] <;> rfl):=h
def CB (h:p:=by simp only [Array.length_toList]; omega):=h
def QA (h:p:=by simp only [exb, simprocAttr, hl'] <;> rfl):=h
def IE (h:p:=by simp only [exb, simprocAttr, hat] <;> rfl):=h
def xV (h:p:=by simp only [exb, simprocAttr, ckC] <;> rfl):=h
def QF (h:p:=by simp only [exb, simprocAttr, hsd] <;> rfl):=h
def II (h:p:=by simp only [exb, simprocAttr, hwr] <;> rfl):=h
def Iy (h:p:=by simp only [exb, simprocAttr, hcp] <;> rfl):=h
def uI (h:p:=by simp only [exb, simprocAttr, DID] <;> rfl):=h
def Qz (h:p:=by simp only [exb, simprocAttr, ht] <;> rfl):=h
def Qs (h:p:=by simp only [exb, simprocAttr, hs] <;> rfl):=h
def KV (h:p:=by simp only [exb, simprocAttr, hd] <;> rfl):=h
def L8 (h:p:=by simp [A.ids, av, hj, hbj, hjb]):=h
def Ql (h:p:=by simp only [List.length_map]; omega):=h
def Qw (h:p:=by rw [hf2 o ho hge]; simpa using hal):=h
def LJ (h:p:=by unfold World.freeze; split <;> rfl):=h
def IU (h:p:=by rw [hs.op]; simp [Op.operands]):=h
def Jj (h:p:=by rw [List.length_set]; exact hl):=h
def x9 (h:p:=by rw [List.length_take]; omega):=h
def MG (h:p:=by rw [List.length_drop]; omega):=h
def qw (h:p:=by simp [A.ids, O.ids, av]):=h
def M5 (h:p:=by rw [hy, Nat.add_mul]; omega):=h
def IB (h:p:=by rw [List.length_map]; omega):=h
def CQ (h:p:=by simpa using Nat.not_lt.1 hi):=h
def Ji (h:p:=by unfold EX; rw [hbf]; rfl):=h
def MJ (h:p:=by simpa [upd, e] using ho):=h
def Ls (h:p:=by simp [execOp, hop, hv]):=h
def qh (h:p:=by intro j hj; simp at hj):=h
def oV (h:p:=by simp [A.ids, av]):=h
def EW (h:p:=by simp [O.ids, O.kill]):=h
def Mv (h:p:=by rw [ex]; exact hi'):=h
def fA (h:p:=by simp [Op.operands]):=h
def MV (h:p:=by simp [fq]; omega):=h
def Jg (h:p:=by simp [hsz]; omega):=h
def NG (h:p:=by rw [ex]; exact hi):=h
def MU (h:p:=by rw [ex]; exact hq):=h
def Cg (h:p:=by simpa using hsz):=h
def uQ (h:p:=by simpa using hx):=h
def BO (h:p:=by simpa using hl):=h
def BR (h:p:=by simpa using h1):=h
def FL (h:p:=by simpa using he):=h
def dL (h:p:=by decide +kernel):=h
end
namespace V
open Go.RowKit
inductive C where
 | int (k : IntKind) (n : Int)
 | bool (b : Bool)
 | str (s : ByteArray)
 | sl (xs : List (List C))
inductive A1 where
 | top
 | c (x : C)
 | agg (xs : List C)
 | nil
 | ptr (id off : Nat)
 | own (id : Nat)
 | map (id : Nat)
 | nilv (v : Value)
inductive A where
 | top
 | undef
 | c (x : C)
 | agg (xs : List C)
 | nil
 | ptr (id off : Nat)
 | rptr (xs : List C)
 | own (id : Nat)
 | fn (f : FuncId) (ids : List Nat)
 | tup (xs : List (Bool × List C))
 | pinP (v : Value) (id off : Nat)
 | pinC (v : Value) (x : C)
 | pinG (v : Value) (xs : List C)
 | eptr (id e i f : Nat)
 | win (id e lo hi : Nat)
 | map (id : Nat)
 | nilv (v : Value)
 | ifc (t : TypeId) (x : Bool × List C)
 | tupA (xs : List A1)
 | aggA (xs : List A1)
 | nn (xs : List (List C))
 | defs (l : List Deferred)
 | fnR (f : FuncId) (caps : List (List C))
def A1.up : A1 → A
 | .top => .top
 | .c x => .c x
 | .agg xs => .agg xs
 | .nil => .nil
 | .ptr id off => .ptr id off
 | .own id => .own id
 | .map id => .map id
 | .nilv v => .nilv v
def A1.ids : A1 → List Nat
 | .ptr id _ => [id]
 | .own id => [id]
 | .map id => [id]
 | _ => []
def A1.kill (id : Nat) (a : A1) : A1 := if a.ids.elem id = true then .top else a
inductive O where
 | box (ty : TypeId) (cells : List A)
 | arr (ty : TypeId) (e : Nat) (xs : List (List C))
 | raw (o : Obj)
 | mrow (ty : TypeId) (e : Nat) (xs : List (List C))
 | rows (ty : TypeId) (xs : List A1)
 | map (ents : List (A1 × A1))
 | hole
 | names (o : Option (List (List UInt8)))
 | gone
abbrev Mem := Nat → Option O
def Mem.nil : Mem := fun _ => none
def upd {α : Type} (f : Nat → α) (t : Nat) (x : α) : Nat → α := fun u => if u = t then x else f u
theorem bO {α : Type} (x : α) : ¬ ((none : Option α) = some x) := by simp
def Mem.put (mem : Mem) (id : Nat) : Option O → Mem
 | none => mem
 | some x => upd mem id (some x)
theorem upd_same {α : Type} (f : Nat → α) (t : Nat) (x : α) : upd f t x t = x := by simp [upd]
theorem upd_ne {α : Type} (f : Nat → α) {t u : Nat} (x : α) (h : u ≠ t) : upd f t x u = f u := by simp [upd, h]
def kF : Nat := 140737488351232
inductive RC (w : World) (I : Nat → Nat → Prop) : Value → C → Prop where
 | int {k : IntKind} {n : Int} (h : (Lit.int k n).wf = true) : RC w I (.int k n) (.int k n)
 | bool {b : Bool} : RC w I (.bool b) (.bool b)
 | str {s : ByteArray} (h : s.size ≤ kF) : RC w I (.string s) (.str s)
 | sl {a : Option Addr} {n cap e : Nat} {xs : List (List C)} (f : Nat → Nat → Value) (hn : xs.length = n) (hc : n ≤ cap) (hm : cap ≤ maxLen)
    (hl : ∀ x ∈ xs, x.length = e)
    (ha : ∀ i x, xs[i]? = some x → ∃ b off, a = some ⟨b, off, none⟩ ∧ ∀ j, j < e → I b (off + i * e + j) ∧ w.cell? ⟨b, off + i * e + j, none⟩ = some (f i j))
    (hr : ∀ i j x c, xs[i]? = some x → x[j]? = some c → RC w I (f i j) c) : RC w I (.slice a n cap) (.sl xs)
def RCs (w : World) (I : Nat → Nat → Prop) : List Value → List C → Prop
 | [], [] => True
 | v :: vs, x :: xs => RC w I v x ∧ RCs w I vs xs
 | _, _ => False
structure Ext (w w' : World) (I I' : Nat → Nat → Prop) : Prop where
 more : ∀ b o, I b o → I' b o
 same : ∀ b o, I b o → w'.cell? ⟨b, o, none⟩ = w.cell? ⟨b, o, none⟩
theorem Ext.refl (w : World) (I : Nat → Nat → Prop) : Ext w w I I := ⟨fun _ _ h => h, fun _ _ _ => rfl⟩
theorem Ext.trans {w w1 w2 : World} {I I1 I2 : Nat → Nat → Prop} (h : Ext w w1 I I1) (k : Ext w1 w2 I1 I2) : Ext w w2 I I2 :=
 ⟨fun b o hi => k.more b o (h.more b o hi), fun b o hi => (k.same b o (h.more b o hi)).trans (h.same b o hi)⟩
theorem RC.mono {w w' : World} {I I' : Nat → Nat → Prop} (hE : Ext w w' I I') {v : Value} {x : C} (h : RC w I v x) : RC w' I' v x := by
 induction h with
 | int h => exact .int h
 | bool => exact .bool
 | str h => exact .str h
 | sl f hn hc hm hl ha hr ih =>
   refine .sl f hn hc hm hl (fun i x hi => ?_) ih
   obtain ⟨b, off, e1, h2⟩ := ha i x hi
   exact ⟨b, off, e1, fun j hj => ⟨hE.more _ _ (h2 j hj).1, (hE.same _ _ (h2 j hj).1).trans (h2 j hj).2⟩⟩
theorem RCs.mono {w w' : World} {I I' : Nat → Nat → Prop} (hE : Ext w w' I I') : ∀ {vs : List Value} {xs : List C}, RCs w I vs xs → RCs w' I' vs xs
 | [], [], _ => trivial
 | _ :: _, _ :: _, h => ⟨h.1.mono hE, RCs.mono hE h.2⟩
theorem RCs.length {w : World} {I : Nat → Nat → Prop} : ∀ {vs : List Value} {xs : List C}, RCs w I vs xs → vs.length = xs.length
 | [], [], _ => rfl
 | _ :: _, _ :: _, h => by simp [RCs.length h.2]
theorem RCs.at {w : World} {I : Nat → Nat → Prop} : ∀ {vs : List Value} {xs : List C}, RCs w I vs xs → ∀ (j : Nat) x, xs[j]? = some x → ∃ v, vs[j]? = some v ∧ RC w I v x
 | [], [], _, j, x, h => by simp at h
 | v :: _, y :: _, h, 0, x, hx => by simp at hx; subst hx; exact ⟨v, rfl, h.1⟩
 | _ :: _, _ :: _, h, j + 1, x, hx => by simpa using RCs.at h.2 j x uQ
theorem RCs.of {w : World} {I : Nat → Nat → Prop} : ∀ {vs : List Value} {xs : List C}, vs.length = xs.length → (∀ (j : Nat) v x, vs[j]? = some v → xs[j]? = some x → RC w I v x) → RCs w I vs xs
 | [], [], _, _ => trivial
 | v :: vs, x :: xs, hl, h => ⟨h 0 v x rfl rfl, RCs.of BO fun j v x h1 h2 => h (j + 1) v x BR (by simpa using h2)⟩
theorem RCs.drop {w : World} {I : Nat → Nat → Prop} : ∀ {vs : List Value} {xs : List C} (k : Nat), RCs w I vs xs → RCs w I (vs.drop k) (xs.drop k)
 | _, _, 0, h => h
 | [], [], _ + 1, _ => trivial
 | _ :: _, _ :: _, k + 1, h => RCs.drop k h.2
theorem RCs.take {w : World} {I : Nat → Nat → Prop} : ∀ {vs : List Value} {xs : List C} (k : Nat), RCs w I vs xs → RCs w I (vs.take k) (xs.take k)
 | _, _, 0, _ => trivial
 | [], [], _ + 1, _ => trivial
 | _ :: _, _ :: _, k + 1, h => ⟨h.1, RCs.take k h.2⟩
theorem RCs.append {w : World} {I : Nat → Nat → Prop} : ∀ {vs us : List Value} {xs ys : List C}, RCs w I vs xs → RCs w I us ys → RCs w I (vs ++ us) (xs ++ ys)
 | [], _, [], _, _, h => h
 | _ :: _, _, _ :: _, _, h, k => ⟨h.1, RCs.append h.2 k⟩
theorem RC.one {w : World} {I : Nat → Nat → Prop} {v : Value} {x : C} (h : RC w I v x) : v.oneCell' = true ∧ v.cells = #[v] := by cases h <;> exact ⟨rfl, rfl⟩
theorem RC.toInt {w : World} {I : Nat → Nat → Prop} {v : Value} {k : IntKind} {n : Int} (h : RC w I v (.int k n)) : v = .int k n ∧ (Lit.int k n).wf = true := by cases h; exact ⟨rfl, by assumption⟩
theorem RC.toBool {w : World} {I : Nat → Nat → Prop} {v : Value} {b : Bool} (h : RC w I v (.bool b)) : v = .bool b := by cases h; rfl
theorem RC.toStr {w : World} {I : Nat → Nat → Prop} {v : Value} {s : ByteArray} (h : RC w I v (.str s)) : v = .string s ∧ s.size ≤ kF := by cases h; exact ⟨rfl, by assumption⟩
def RT (w : World) (I : Nat → Nat → Prop) (v : Value) (x : Bool × List C) : Prop := if x.1 then ∃ us, v = .agg us.toArray ∧ RCs w I us x.2 else ∃ y, x.2 = [y] ∧ RC w I v y
def RTs (w : World) (I : Nat → Nat → Prop) : List Value → List (Bool × List C) → Prop
 | [], [] => True
 | v :: vs, x :: xs => RT w I v x ∧ RTs w I vs xs
 | _, _ => False
theorem RT.mono {w w' : World} {I I' : Nat → Nat → Prop} (hE : Ext w w' I I') {v : Value} {x : Bool × List C} (h : RT w I v x) : RT w' I' v x := by
 unfold RT at *
 split
 ·rename_i hx; rw [if_pos hx] at h; obtain ⟨us, h1, h2⟩ := h; exact ⟨us, h1, h2.mono hE⟩
 ·rename_i hx; rw [if_neg hx] at h; obtain ⟨y, h1, h2⟩ := h; exact ⟨y, h1, h2.mono hE⟩
theorem RTs.mono {w w' : World} {I I' : Nat → Nat → Prop} (hE : Ext w w' I I') : ∀ {vs : List Value} {xs : List (Bool × List C)}, RTs w I vs xs → RTs w' I' vs xs
 | [], [], _ => trivial
 | _ :: _, _ :: _, h => ⟨h.1.mono hE, RTs.mono hE h.2⟩
def A.ids : A → List Nat
 | .ptr id _ => [id]
 | .own id => [id]
 | .fn _ ids => ids
 | .pinP _ id _ => [id]
 | .eptr id _ _ _ => [id]
 | .win id _ _ _ => [id]
 | .map id => [id]
 | .tupA xs => xs.flatMap A1.ids
 | .aggA xs => xs.flatMap A1.ids
 | _ => []
def O.ids : O → List Nat
 | .box _ cells => cells.flatMap A.ids
 | .rows _ xs => xs.flatMap A1.ids
 | .map ents => ents.flatMap fun p => p.1.ids ++ p.2.ids
 | _ => []
def A.kill (id : Nat) : A → A
 | .ptr j off => if j = id then .top else .ptr j off
 | .own j => if j = id then .top else .own j
 | .fn f ids => if ids.elem id = true then .top else .fn f ids
 | .pinP v j off => if j = id then .top else .pinP v j off
 | .eptr j e i f => if j = id then .top else .eptr j e i f
 | .win j e lo hi => if j = id then .top else .win j e lo hi
 | .map j => if j = id then .top else .map j
 | .tupA xs => if (xs.flatMap A1.ids).elem id = true then .top else .tupA xs
 | .aggA xs => if (xs.flatMap A1.ids).elem id = true then .top else .aggA xs
 | a => a
def O.kill (id : Nat) : O → O
 | .box ty cells => .box ty (cells.map (A.kill id))
 | .rows ty xs => .rows ty (xs.map (A1.kill id))
 | .map ents => .map (ents.map fun p => (p.1.kill id, p.2.kill id))
 | o => o
def gD (id : Nat) (s : Nat → A) : Nat → A := fun t => (s t).kill id
def eH (id : Nat) (m : Mem) : Mem := fun i => (m i).map (O.kill id)
theorem aM (id : Nat) (s : Nat → A) (t : Nat) : gD id s t = (s t).kill id := rfl
theorem aL (id : Nat) (m : Mem) (i : Nat) : eH id m i = (m i).map (O.kill id) := rfl
theorem A1.dW {id : Nat} {a : A1} : (∀ j ∈ (a.kill id).ids, j ∈ a.ids ∧ j ≠ id) ∧ (a.kill id = .top ∨ (a.kill id = a ∧ id ∉ a.ids)) := by
 unfold A1.kill
 split
 ·exact ⟨fun i hi => by simp [A1.ids] at hi, .inl rfl⟩
 ·rename_i h
  have h' : id ∉ a.ids := by simpa using h
  exact ⟨fun i hi => ⟨hi, fun e => by subst e; exact h' hi⟩, .inr ⟨rfl, h'⟩⟩
theorem A.dW {id : Nat} {a : A} : (∀ j ∈ (a.kill id).ids, j ∈ a.ids ∧ j ≠ id) ∧ (a.kill id = .top ∨ (a.kill id = a ∧ id ∉ a.ids)) := by
 have one : ∀ {j : Nat} {x y : A}, x.ids = [j] → y = (if j = id then .top else x) → (∀ i ∈ y.ids, i ∈ x.ids ∧ i ≠ id) ∧ (y = .top ∨ (y = x ∧ id ∉ x.ids)) := fun {j x y} hx hy => by
  subst hy
  split
  ·exact ⟨fun i hi => by simp [A.ids] at hi, .inl rfl⟩
  ·rename_i h; exact ⟨fun i hi => ⟨hi, fun e => by rw [hx] at hi; simp at hi; exact h (hi.symm.trans e)⟩, .inr ⟨rfl, by rw [hx]; simp; exact fun e => h e.symm⟩⟩
 have many : ∀ {l : List Nat} {x y : A}, x.ids = l → y = (if l.elem id = true then .top else x) → (∀ i ∈ y.ids, i ∈ x.ids ∧ i ≠ id) ∧ (y = .top ∨ (y = x ∧ id ∉ x.ids)) := fun {l x y} hx hy => by
  subst hy
  split
  ·exact ⟨fun i hi => by simp [A.ids] at hi, .inl rfl⟩
  ·rename_i h
   have h' : id ∉ l := by simpa using h
   exact ⟨fun i hi => ⟨hi, fun e => by subst e; rw [hx] at hi; exact h' hi⟩, .inr ⟨rfl, by rw [hx]; exact h'⟩⟩
 cases a with
 | ptr j off => exact one (x := .ptr j off) rfl rfl
 | own j => exact one (x := .own j) rfl rfl
 | fn f ids => exact many (x := .fn f ids) rfl rfl
 | pinP v j off => exact one (x := .pinP v j off) rfl rfl
 | eptr j e i f => exact one (x := .eptr j e i f) rfl rfl
 | win j e lo hi => exact one (x := .win j e lo hi) rfl rfl
 | map j => exact one (x := .map j) rfl rfl
 | tupA xs => exact many (x := .tupA xs) rfl rfl
 | aggA xs => exact many (x := .aggA xs) rfl rfl
 | _ => exact ⟨fun i hi => by simp [A.kill, A.ids] at hi, .inr ⟨rfl, by simp [A.ids]⟩⟩
def R1 (B : Nat → Value) (w : World) (I : Nat → Nat → Prop) : A1 → Value → Prop
 | .top, _ => True
 | .c x, v => RC w I v x
 | .agg xs, v => ∃ vs, v = .agg vs.toArray ∧ RCs w I vs xs
 | .nil, v => v = .slice none 0 0
 | .ptr id off, v => ∃ b, B id = .pointer (some ⟨b, 0, none⟩) ∧ v = .pointer (some ⟨b, off, none⟩)
 | .own id, v => v = B id ∧ ∃ a n cap, v = .slice a n cap
 | .map id, v => v = B id ∧ ∃ r, v = .map (some r)
 | .nilv u, v => v = u
theorem R1.mono {B B' : Nat → Value} {w w' : World} {I I' : Nat → Nat → Prop} (hE : Ext w w' I I') {a : A1} {v : Value} (hB : ∀ id ∈ a.ids, B' id = B id) (h : R1 B w I a v) : R1 B' w' I' a v := by
 cases a with
 | top => trivial
 | c x => exact RC.mono hE h
 | agg xs => obtain ⟨vs, h1, h2⟩ := h; exact ⟨vs, h1, h2.mono hE⟩
 | nil => exact h
 | ptr id off => obtain ⟨b, h1, h2⟩ := h; exact ⟨b, (hB id (by simp [A1.ids])).trans h1, h2⟩
 | own id => exact ⟨h.1.trans (hB id (by simp [A1.ids])).symm, h.2⟩
 | map id => exact ⟨h.1.trans (hB id (by simp [A1.ids])).symm, h.2⟩
 | nilv u => exact h
def R1s (B : Nat → Value) (w : World) (I : Nat → Nat → Prop) : List A1 → List Value → Prop
 | [], [] => True
 | a :: al, v :: vs => R1 B w I a v ∧ R1s B w I al vs
 | _, _ => False
theorem R1s.mono {B B' : Nat → Value} {w w' : World} {I I' : Nat → Nat → Prop} (hE : Ext w w' I I') : ∀ {al : List A1} {vs : List Value}, (∀ id ∈ al.flatMap A1.ids, B' id = B id) → R1s B w I al vs → R1s B' w' I' al vs
 | [], [], _, _ => trivial
 | a :: al, _ :: _, hB, h => ⟨h.1.mono hE fun id hid => hB id (by simp [hid]), R1s.mono hE (fun id hid => hB id (by simp at hid ⊢; exact .inr hid)) h.2⟩
theorem R1s.length {B : Nat → Value} {w : World} {I : Nat → Nat → Prop} : ∀ {al : List A1} {vs : List Value}, R1s B w I al vs → al.length = vs.length
 | [], [], _ => rfl
 | _ :: _, _ :: _, h => by simp [R1s.length h.2]
theorem R1s.at {B : Nat → Value} {w : World} {I : Nat → Nat → Prop} : ∀ {al : List A1} {vs : List Value}, R1s B w I al vs → ∀ (j : Nat) a, al[j]? = some a → ∃ v, vs[j]? = some v ∧ R1 B w I a v
 | [], [], _, j, x, h => by simp at h
 | _ :: _, v :: _, h, 0, x, hx => by simp at hx; subst hx; exact ⟨v, rfl, h.1⟩
 | _ :: _, _ :: _, h, j + 1, x, hx => by simpa using R1s.at h.2 j x uQ
theorem R1s.of {B : Nat → Value} {w : World} {I : Nat → Nat → Prop} : ∀ {al : List A1} {vs : List Value}, al.length = vs.length → (∀ (j : Nat) a v, al[j]? = some a → vs[j]? = some v → R1 B w I a v) → R1s B w I al vs
 | [], [], _, _ => trivial
 | a :: al, v :: vs, hl, h => ⟨h 0 a v rfl rfl, R1s.of BO fun j a v h1 h2 => h (j + 1) a v BR (by simpa using h2)⟩
def REs (B : Nat → Value) (w : World) (I : Nat → Nat → Prop) : List (A1 × A1) → List MapEntry → Prop
 | [], [] => True
 | p :: l, e :: es => (R1 B w I p.1 e.key ∧ R1 B w I p.2 e.val) ∧ REs B w I l es
 | _, _ => False
theorem REs.mono {B B' : Nat → Value} {w w' : World} {I I' : Nat → Nat → Prop} (hE : Ext w w' I I') : ∀ {l : List (A1 × A1)} {es : List MapEntry}, (∀ id ∈ l.flatMap (fun p => p.1.ids ++ p.2.ids), B' id = B id) → REs B w I l es → REs B' w' I' l es
 | [], [], _, _ => trivial
 | p :: l, e :: es, hB, h => ⟨⟨h.1.1.mono hE fun id hid => hB id (by simp [hid]), h.1.2.mono hE fun id hid => hB id (by simp [hid])⟩, REs.mono hE (fun id hid => hB id (by rw [List.flatMap_cons]; exact List.mem_append_right _ hid)) h.2⟩
def rowAt (w : World) (ty : TypeId) (e : Nat) (v : Value) (n : Nat) (vs : List Value) : Prop :=
 vs.length = n * e ∧ ((v = .slice none 0 0 ∧ n = 0) ∨ ∃ g off cap cur, v = .slice (some ⟨g, off, none⟩) n cap ∧ w.heap[g]? = some (.cells cur ty (0, 0)) ∧ n ≤ cap ∧ cap ≤ maxLen ∧ off + cap * e ≤ cur.size ∧ (cur.toList.drop off).take (n * e) = vs)
theorem rowAt.keep {w w' : World} {ty : TypeId} {e n : Nat} {v : Value} {vs : List Value} (hb : ∀ k, v.ownBlock = some k → w'.heap[k]? = w.heap[k]?) (h : rowAt w ty e v n vs) : rowAt w' ty e v n vs := by
 refine ⟨h.1, ?_⟩
 rcases h.2 with k | ⟨g, off, cap, cur, hv, hg, r⟩
 ·exact .inl k
 ·exact .inr ⟨g, off, cap, cur, hv, (hb g (by rw [hv]; rfl)).trans hg, r⟩
def RPs (w : World) (I : Nat → Nat → Prop) : List (List C) → List Value → Prop
 | [], [] => True
 | xs :: l, v :: vs => (∃ b off us, v = .pointer (some ⟨b, off, none⟩) ∧ RCs w I us xs ∧ ∀ j x, us[j]? = some x → I b (off + j) ∧ w.cell? ⟨b, off + j, none⟩ = some x) ∧ RPs w I l vs
 | _, _ => False
theorem RPs.mono {w w' : World} {I I' : Nat → Nat → Prop} (hE : Ext w w' I I') : ∀ {l : List (List C)} {vs : List Value}, RPs w I l vs → RPs w' I' l vs
 | [], [], _ => trivial
 | _ :: _, _ :: _, ⟨⟨b, off, us, h1, h2, h3⟩, h⟩ => ⟨⟨b, off, us, h1, h2.mono hE, fun j x hj => ⟨hE.more _ _ (h3 j x hj).1, (hE.same _ _ (h3 j x hj).1).trans (h3 j x hj).2⟩⟩, h.mono hE⟩
def RV (B : Nat → Value) (w : World) (I : Nat → Nat → Prop) : A → Value → Prop
 | .top, _ => True
 | .undef, v => v = Go.undef
 | .c x, v => RC w I v x
 | .agg xs, v => ∃ vs, v = .agg vs.toArray ∧ RCs w I vs xs
 | .nil, v => v = .slice none 0 0
 | .ptr id off, v => ∃ b, B id = .pointer (some ⟨b, 0, none⟩) ∧ v = .pointer (some ⟨b, off, none⟩)
 | .rptr xs, v => ∃ b off vs, v = .pointer (some ⟨b, off, none⟩) ∧ RCs w I vs xs ∧ ∀ j x, vs[j]? = some x → I b (off + j) ∧ w.cell? ⟨b, off + j, none⟩ = some x
 | .own id, v => v = B id ∧ ∃ a n cap, v = .slice a n cap
 | .fn f ids, v => v = .func (.func f) #[] (ids.map B).toArray
 | .tup xs, v => ∃ vs, v = .tuple vs.toArray ∧ RTs w I vs xs
 | .pinP u id off, _ => ∃ b, B id = .pointer (some ⟨b, 0, none⟩) ∧ u = .pointer (some ⟨b, off, none⟩)
 | .pinC u x, _ => RC w I u x
 | .pinG u xs, _ => ∃ vs, u = .agg vs.toArray ∧ RCs w I vs xs
 | .eptr id e i f, v => ∃ b off n cap, B id = .slice (some ⟨b, off, none⟩) n cap ∧ v = .pointer (some ⟨b, off + i * e + f, none⟩)
 | .win id e lo hi, v => ∃ ad n cap, B id = .slice ad n cap ∧ lo ≤ hi ∧ hi ≤ cap ∧ v = .slice (if cap = lo then ad else ad.map (·.add (lo * e))) (hi - lo) (cap - lo)
 | .map id, v => v = B id ∧ ∃ r, v = .map (some r)
 | .nilv u, v => v = u
 | .ifc t x, v => ∃ u, v = .iface t u ∧ RT w I u x
 | .tupA xs, v => ∃ vs, v = .tuple vs.toArray ∧ R1s B w I xs vs
 | .aggA xs, v => ∃ vs, v = .agg vs.toArray ∧ R1s B w I xs vs ∧ ∀ u ∈ vs, u.oneCell' = true
 | .nn xs, v => RC w I v (.sl xs) ∧ ∃ a n cap, v = .slice (some a) n cap
 | .defs _, _ => True
 | .fnR f caps, v => ∃ ps, v = .func (.func f) #[] ps.toArray ∧ RPs w I caps ps
theorem EY {B : Nat → Value} {w : World} {I : Nat → Nat → Prop} {a : A1} {v : Value} : RV B w I a.up v ↔ R1 B w I a v := by cases a <;> exact Iff.rfl
theorem tZ (a : A1) : a.up.ids = a.ids := by cases a <;> rfl
theorem RV.mono {B B' : Nat → Value} {w w' : World} {I I' : Nat → Nat → Prop} (hE : Ext w w' I I') {a : A} {v : Value} (hB : ∀ id ∈ a.ids, B' id = B id) (h : RV B w I a v) : RV B' w' I' a v := by
 cases a with
 | top => trivial
 | undef => exact h
 | c x => exact RC.mono hE h
 | agg xs => obtain ⟨vs, h1, h2⟩ := h; exact ⟨vs, h1, h2.mono hE⟩
 | nil => exact h
 | ptr id off => obtain ⟨b, h1, h2⟩ := h; exact ⟨b, (hB id (by simp [A.ids])).trans h1, h2⟩
 | rptr xs =>
   obtain ⟨b, off, vs, h1, h2, h3⟩ := h
   exact ⟨b, off, vs, h1, h2.mono hE, fun j x hj => ⟨hE.more _ _ (h3 j x hj).1, (hE.same _ _ (h3 j x hj).1).trans (h3 j x hj).2⟩⟩
 | own id => exact ⟨h.1.trans (hB id (by simp [A.ids])).symm, h.2⟩
 | fn f ids =>
   have : ids.map B' = ids.map B := List.map_congr_left fun id hid => hB id (by simpa [A.ids] using hid)
   show v = _
   rw [this]; exact h
 | tup xs => obtain ⟨vs, h1, h2⟩ := h; exact ⟨vs, h1, h2.mono hE⟩
 | pinP u id off => obtain ⟨b, h1, h2⟩ := h; exact ⟨b, (hB id (by simp [A.ids])).trans h1, h2⟩
 | pinC u x => exact RC.mono hE h
 | pinG u xs => obtain ⟨vs, h1, h2⟩ := h; exact ⟨vs, h1, h2.mono hE⟩
 | eptr id e i f => obtain ⟨b, off, n, cap, h1, h2⟩ := h; exact ⟨b, off, n, cap, (hB id (by simp [A.ids])).trans h1, h2⟩
 | win id e lo hi => obtain ⟨ad, n, cap, h1, h2⟩ := h; exact ⟨ad, n, cap, (hB id (by simp [A.ids])).trans h1, h2⟩
 | map id => exact ⟨h.1.trans (hB id (by simp [A.ids])).symm, h.2⟩
 | nilv u => exact h
 | ifc t x => obtain ⟨u, h1, h2⟩ := h; exact ⟨u, h1, h2.mono hE⟩
 | tupA xs => obtain ⟨vs, h1, h2⟩ := h; exact ⟨vs, h1, h2.mono hE hB⟩
 | aggA xs => obtain ⟨vs, h1, h2, h3⟩ := h; exact ⟨vs, h1, h2.mono hE hB, h3⟩
 | nn xs => exact ⟨RC.mono hE h.1, h.2⟩
 | defs l => trivial
 | fnR f caps => obtain ⟨ps, h1, h2⟩ := h; exact ⟨ps, h1, h2.mono hE⟩
def RVs (B : Nat → Value) (w : World) (I : Nat → Nat → Prop) : List A → List Value → Prop
 | [], [] => True
 | a :: al, v :: vs => (RV B w I a v ∧ v.oneCell' = true) ∧ RVs B w I al vs
 | _, _ => False
theorem RVs.mono {B B' : Nat → Value} {w w' : World} {I I' : Nat → Nat → Prop} (hE : Ext w w' I I') : ∀ {al : List A} {vs : List Value}, (∀ id ∈ al.flatMap A.ids, B' id = B id) → RVs B w I al vs → RVs B' w' I' al vs
 | [], [], _, _ => trivial
 | a :: al, _ :: _, hB, h => ⟨⟨h.1.1.mono hE fun id hid => hB id (by simp [hid]), h.1.2⟩, RVs.mono hE (fun id hid => hB id (by simp at hid ⊢; exact .inr hid)) h.2⟩
theorem RVs.length {B : Nat → Value} {w : World} {I : Nat → Nat → Prop} : ∀ {al : List A} {vs : List Value}, RVs B w I al vs → al.length = vs.length
 | [], [], _ => rfl
 | _ :: _, _ :: _, h => by simp [RVs.length h.2]
theorem RVs.at {B : Nat → Value} {w : World} {I : Nat → Nat → Prop} : ∀ {al : List A} {vs : List Value}, RVs B w I al vs → ∀ (j : Nat) a, al[j]? = some a → ∃ v, vs[j]? = some v ∧ RV B w I a v ∧ v.oneCell' = true
 | [], [], _, j, x, h => by simp at h
 | _ :: _, v :: _, h, 0, x, hx => by simp at hx; subst hx; exact ⟨v, rfl, h.1⟩
 | _ :: _, _ :: _, h, j + 1, x, hx => by simpa using RVs.at h.2 j x uQ
theorem RVs.of {B : Nat → Value} {w : World} {I : Nat → Nat → Prop} : ∀ {al : List A} {vs : List Value}, al.length = vs.length → (∀ (j : Nat) a v, al[j]? = some a → vs[j]? = some v → RV B w I a v ∧ v.oneCell' = true) → RVs B w I al vs
 | [], [], _, _ => trivial
 | a :: al, v :: vs, hl, h => ⟨h 0 a v rfl rfl, RVs.of BO fun j a v h1 h2 => h (j + 1) a v BR (by simpa using h2)⟩
theorem RVs.drop {B : Nat → Value} {w : World} {I : Nat → Nat → Prop} : ∀ {al : List A} {vs : List Value} (k : Nat), RVs B w I al vs → RVs B w I (al.drop k) (vs.drop k)
 | _, _, 0, h => h
 | [], [], _ + 1, _ => trivial
 | _ :: _, _ :: _, k + 1, h => RVs.drop k h.2
theorem RVs.ofData {B : Nat → Value} {w : World} {I : Nat → Nat → Prop} : ∀ {vs : List Value} {xs : List C}, RCs w I vs xs → RVs B w I (xs.map A.c) vs
 | [], [], _ => trivial
 | _ :: _, _ :: _, h => ⟨⟨h.1, h.1.one.1⟩, RVs.ofData h.2⟩
def flat (xs : List (List C)) : List C := xs.flatten
structure NM (es : Array MapEntry) (clock : Nat) (o : Option (List (List UInt8))) : Prop where
 stamped : MapKept.Stamped es clock
 each : ∀ e ∈ es.toList, ∃ s : ByteArray, e.key = .string s ∧ s.size ≤ kF ∧ e.val = .int .i64 1
 told : ∀ L, o = some L → ∀ s : ByteArray, (∃ e ∈ es.toList, e.key = .string s) ↔ s.data.toList ∈ L
def RO (B : Nat → Value) (w : World) (I : Nat → Nat → Prop) (id : Nat) : O → Prop
 | .box ty cells => ∃ b vs, B id = .pointer (some ⟨b, 0, none⟩) ∧ w.heap[b]? = some (.cells (List.toArray vs) ty) ∧ RVs B w I cells vs ∧ ∀ o, ¬ I b o
 | .arr ty e xs => ∃ vs, w.ownsRow 0 ty e (B id) xs.length vs ∧ RCs w I vs (flat xs) ∧ (∀ x ∈ xs, x.length = e) ∧ ∀ b, (B id).ownBlock = some b → ∀ o, (I b o ↔ o < xs.length * e)
 | .raw o => ∃ b, B id = .pointer (some ⟨b, 0, none⟩) ∧ w.heap[b]? = some o ∧ ∀ p, ¬ I b p
 | .mrow ty e xs => ∃ vs, rowAt w ty e (B id) xs.length vs ∧ RCs w I vs (flat xs) ∧ (∀ x ∈ xs, x.length = e) ∧ ∀ b, (B id).ownBlock = some b → ∀ o, ¬ I b o
 | .rows ty xs => ∃ vs, rowAt w ty 1 (B id) xs.length vs ∧ R1s B w I xs vs ∧ (∀ v ∈ vs, v.oneCell' = true) ∧ ∀ b, (B id).ownBlock = some b → ∀ o, ¬ I b o
 | .map ents => ∃ r es clock, B id = .map (some r) ∧ w.heap[r]? = some (.map es clock) ∧ REs B w I ents es.toList ∧ ∀ o, ¬ I r o
 | .hole => ∃ b, B id = .pointer (some ⟨b, 0, none⟩) ∧ ∀ p, ¬ I b p
 | .names o => ∃ r es clock, B id = .map (some r) ∧ w.heap[r]? = some (.map es clock) ∧ NM es clock o ∧ ∀ p, ¬ I r p
 | .gone => True
def foot (B : Nat → Value) (id : Nat) : O → Nat → Prop
 | .box .., k => ∃ off, B id = .pointer (some ⟨k, off, none⟩)
 | .arr .., k => (B id).ownBlock = some k
 | .raw _, k => ∃ off, B id = .pointer (some ⟨k, off, none⟩)
 | .mrow .., k => (B id).ownBlock = some k
 | .rows .., k => (B id).ownBlock = some k
 | .map _, k => B id = .map (some k)
 | .hole, k => ∃ off, B id = .pointer (some ⟨k, off, none⟩)
 | .names _, k => B id = .map (some k)
 | .gone, _ => False
structure MR (w0 : World) (I0 : Nat → Nat → Prop) (B : Nat → Value) (I : Nat → Nat → Prop) (mem : Mem) (w : World) : Prop where
 below : Below w0.heap.size w0 w
 glob : GlobOk w0
 base : ∀ b o, I0 b o → I b o
 old : ∀ b o, I b o → I0 b o ∨ w0.heap.size ≤ b
 there : ∀ b o, I b o → b < w.heap.size
 objs : ∀ id o, mem id = some o → RO B w I id o
 low : ∀ id o, mem id = some o → ∀ k, foot B id o k → w0.heap.size ≤ k ∧ k < w.heap.size
 apart : ∀ id o id' o', mem id = some o → mem id' = some o' → id ≠ id' → ∀ k, foot B id o k → ¬ foot B id' o' k
 live : ∀ id o, mem id = some o → ∀ j ∈ o.ids, (mem j).isSome = true
theorem RO.mono {B B' : Nat → Value} {w w' : World} {I I' : Nat → Nat → Prop} {id : Nat} {o : O} (hE : Ext w w' I I') (hid : B' id = B id) (hB : ∀ j ∈ o.ids, B' j = B j)
 (hb : ∀ k, foot B id o k → w'.heap[k]? = w.heap[k]?) (hI2 : ∀ k, foot B id o k → ∀ p, I' k p → I k p) (h : RO B w I id o) : RO B' w' I' id o := by
 cases o with
 | box ty cells =>
   obtain ⟨b, vs, h1, h2, h3, h4⟩ := h
   have hf : foot B id (.box ty cells) b := ⟨0, h1⟩
   exact ⟨b, vs, hid.trans h1, (hb b hf).trans h2, h3.mono hE hB, fun p hp => h4 p (hI2 b hf p hp)⟩
 | arr ty e xs =>
   obtain ⟨vs, h1, h2, h3, h4⟩ := h
   refine ⟨vs, ?_, h2.mono hE, h3, fun b hb' p => ?_⟩
   ·rw [hid]
    refine ⟨h1.1, ?_⟩
    rcases h1.2 with k | ⟨g, cap, cur, hv, hg, hh, r⟩
    ·exact .inl k
    ·exact .inr ⟨g, cap, cur, hv, hg, (hb g (by show Value.ownBlock _ = _; rw [hv]; rfl)).trans hh, r⟩
   ·rw [hid] at hb'
    exact ⟨fun hp => (h4 b hb' p).1 (hI2 b hb' p hp), fun hp => hE.more _ _ ((h4 b hb' p).2 hp)⟩
 | raw x =>
   obtain ⟨b, h1, h2, h3⟩ := h
   exact ⟨b, hid.trans h1, (hb b ⟨0, h1⟩).trans h2, fun p hp => h3 p (hI2 b ⟨0, h1⟩ p hp)⟩
 | mrow ty e xs =>
   obtain ⟨vs, h1, h2, h3, h4⟩ := h
   refine ⟨vs, ?_, h2.mono hE, h3, fun b hb' p hp => ?_⟩
   ·rw [hid]; exact h1.keep hb
   ·rw [hid] at hb'; exact h4 b hb' p (hI2 b hb' p hp)
 | rows ty xs =>
   obtain ⟨vs, h1, h2, h3, h4⟩ := h
   refine ⟨vs, ?_, h2.mono hE hB, h3, fun b hb' p hp => ?_⟩
   ·rw [hid]; exact h1.keep hb
   ·rw [hid] at hb'; exact h4 b hb' p (hI2 b hb' p hp)
 | map ents =>
   obtain ⟨r, es, clock, h1, h2, h3, h4⟩ := h
   exact ⟨r, es, clock, hid.trans h1, (hb r h1).trans h2, h3.mono hE hB, fun p hp => h4 p (hI2 r h1 p hp)⟩
 | hole =>
   obtain ⟨b, h1, h3⟩ := h
   exact ⟨b, hid.trans h1, fun p hp => h3 p (hI2 b ⟨0, h1⟩ p hp)⟩
 | names o =>
   obtain ⟨r, es, clock, h1, h2, h3, h4⟩ := h
   exact ⟨r, es, clock, hid.trans h1, (hb r h1).trans h2, h3, fun p hp => h4 p (hI2 r h1 p hp)⟩
 | gone => trivial
theorem kX {B B' : Nat → Value} {id : Nat} {o : O} {k : Nat} (h : B' id = B id) : foot B' id o k ↔ foot B id o k := by
 cases o <;> simp [foot, h]
section
variable {w0 w w' : World} {I0 I I' : Nat → Nat → Prop} {B B' : Nat → Value} {mem : Mem}
theorem MR.ext (h : MR w0 I0 B I mem w) (hb : Below w.heap.size w w') (hI : ∀ b o, I b o → I' b o) : Ext w w' I I' :=
 ⟨hI, fun b o ho => hb.cell (p := ⟨b, o, none⟩) (h.there b o ho)⟩
theorem MR.grow (h : MR w0 I0 B I mem w) (hb : Below w.heap.size w w') (hI : ∀ b o, I b o → I' b o) (hn : ∀ b o, I' b o → I b o ∨ (w.heap.size ≤ b ∧ b < w'.heap.size)) : MR w0 I0 B I' mem w' := by
 refine ⟨h.below.trans (hb.mono h.below.size), h.glob, fun b o hi => hI b o (h.base b o hi), fun b o hi => ?_, fun b o hi => ?_, fun id o ho => ?_, fun id o ho k hk => ?_, h.apart, h.live⟩
 ·rcases hn b o hi with k | ⟨k, -⟩
  ·exact h.old b o k
  ·exact .inr (Nat.le_trans h.below.size k)
 ·rcases hn b o hi with k | ⟨-, k⟩
  ·exact Nat.lt_of_lt_of_le (h.there b o k) hb.size
  ·exact k
 ·refine RO.mono (h.ext hb hI) rfl (fun _ _ => rfl) (fun k hk => hb.block k (h.low id o ho k hk).2) (fun k hk p hp => ?_) (h.objs id o ho)
  rcases hn k p hp with q | ⟨q, -⟩
  ·exact q
  ·have := (h.low id o ho k hk).2; omega
 ·have := h.low id o ho k hk; have := hb.size; omega
theorem MR.pO (h : MR w0 I0 B I mem w) : GlobOk w := h.glob.keep h.below
theorem MR.call (h : MR w0 I0 B I mem w) (hb : Below w.heap.size w w') : MR w0 I0 B I mem w' := h.grow hb (fun _ _ k => k) (fun _ _ k => .inl k)
theorem MR.alloc (h : MR w0 I0 B I mem w) {id : Nat} (hid : mem id = none) {o : O} {v : Value} {x : Obj} (hob : RO (upd B id v) (w.alloc x) I id o) (hf : ∀ k, foot (upd B id v) id o k → k = w.heap.size) (hl : ∀ j ∈ o.ids, (mem j).isSome = true) :
 MR w0 I0 (upd B id v) I (upd mem id (some o)) (w.alloc x) := by
 have hb : Below w.heap.size w (w.alloc x) := (Below.refl _ _).alloc (Nat.le_refl _) _
 have h' := h.call hb
 have keep : ∀ j, (mem j).isSome = true → upd B id v j = B j := fun j hj => upd_ne _ _ (fun e => by subst e; simp [hid] at hj)
 have liv : ∀ j, (mem j).isSome = true → (upd mem id (some o) j).isSome = true := fun j hj => by
  unfold upd; split
  ·rfl
  ·exact hj
 have far : ∀ {i : Nat} {x : O}, mem i = some x → ∀ {q : Nat}, foot (upd B id v) i x q → q ≠ w.heap.size := fun {i x} hx {q} hq e => by
  have hs : (mem i).isSome = true := by simp [hx]
  have := (h.low i x hx q ((kX (keep i hs)).1 hq)).2; omega
 refine ⟨h'.below, h'.glob, h'.base, h'.old, h'.there, fun j y ho => ?_, fun j y ho k hk => ?_, fun j y j' y' ho ho' hne k hk hk' => ?_, fun j y ho i hi => ?_⟩
 ·unfold upd at ho
  split at ho
  ·rename_i e; subst e
   cases ho
   exact hob
  ·have hs : (mem j).isSome = true := by simp [ho]
   exact RO.mono (Ext.refl _ _) (keep j hs) (fun i hi => keep i (h.live j y ho i hi)) (fun _ _ => rfl) (fun _ _ _ hp => hp) (h'.objs j y ho)
 ·unfold upd at ho
  split at ho
  ·rename_i e; subst e
   cases ho
   rw [hf k hk]
   exact ⟨h.below.size, by simp⟩
  ·have hs : (mem j).isSome = true := by simp [ho]
   exact h'.low j y ho k ((kX (keep j hs)).1 hk)
 ·unfold upd at ho ho'
  split at ho <;> split at ho'
  ·rename_i e e'; exact hne (e.trans e'.symm)
  ·rename_i e e'; subst e; cases ho; exact far ho' hk' (hf k hk)
  ·rename_i e e'; subst e'; cases ho'; exact far ho hk (hf k hk')
  ·have hs : (mem j).isSome = true := by simp [ho]
   have hs' : (mem j').isSome = true := by simp [ho']
   exact h.apart j y j' y' ho ho' hne k ((kX (keep j hs)).1 hk) ((kX (keep j' hs')).1 hk')
 ·unfold upd at ho
  split at ho
  ·cases ho; exact liv i (hl i hi)
  ·exact liv i (h.live j y ho i hi)
theorem MR.box (h : MR w0 I0 B I mem w) {id : Nat} (hid : mem id = none) {ty : TypeId} {cells : List A} {vs : List Value} (hv : RVs B w I cells vs) (hl : ∀ j ∈ cells.flatMap A.ids, (mem j).isSome = true) :
 MR w0 I0 (upd B id (.pointer (some ⟨w.heap.size, 0, none⟩))) I (upd mem id (some (.box ty cells))) (w.alloc (.cells vs.toArray ty)) := by
 have hb : Below w.heap.size w (w.alloc (.cells vs.toArray ty)) := (Below.refl _ _).alloc (Nat.le_refl _) _
 refine h.alloc hid ⟨w.heap.size, vs, upd_same .., heap_alloc_new _ _, hv.mono (h.ext hb (fun _ _ k => k)) (fun i hi => upd_ne _ _ (fun e => by subst e; have := hl i hi; simp [hid] at this)), fun p hp => ?_⟩ (fun k hk => ?_) hl
 ·have := h.there _ _ hp; omega
 ·obtain ⟨off, hk⟩ := hk
  rw [upd_same] at hk
  cases hk; rfl
theorem MR.turn (h : MR w0 I0 B I mem w) {j b : Nat} {o o' : O} (hj : mem j = some o) (hf : foot B j o b) (hf' : ∀ k, foot B j o' k → k = b) (hI : ∀ p, ¬ I b p) (h1 : w'.os = w.os) (h2 : w'.tape = w.tape) (h3 : w'.output = w.output) (h4 : w'.heap.size = w.heap.size)
 (h5 : ∀ k, k ≠ b → w'.heap[k]? = w.heap[k]?) (hl : ∀ i ∈ o'.ids, (mem i).isSome = true) (hn : Ext w w' I I → RO B w' I j o') : MR w0 I0 B I (upd mem j (some o')) w' ∧ Ext w w' I I := by
 have hbl := h.low j _ hj b hf
 have hE : Ext w w' I I := ⟨fun _ _ k => k, fun b' o ho => World.cell?_of_block (w := w) (h5 b' (fun e => by subst e; exact hI o ho))⟩
 have liv : ∀ i, (mem i).isSome = true → (upd mem j (some o') i).isSome = true := fun i hi => by
  unfold upd; split
  ·rfl
  ·exact hi
 have same : ∀ {i : Nat} {x : O} {q : Nat}, upd mem j (some o') i = some x → foot B i x q → ∃ y, mem i = some y ∧ foot B i y q := fun {i x q} hx hq => by
  by_cases e : i = j
  ·subst e
   have : x = o' := by simpa [upd] using hx.symm
   subst this
   exact ⟨_, hj, by rw [hf' q hq]; exact hf⟩
  ·exact ⟨x, by simpa [upd, e] using hx, hq⟩
 refine ⟨⟨h.below.trans ⟨h1, h2, h3, by omega, fun k hk => h5 k (by omega)⟩, h.glob, h.base, h.old, fun b' o ho => by rw [h4]; exact h.there b' o ho, fun id o ho => ?_, fun id o ho k hk => ?_, fun id x id' x' ho ho' hne k hk hk' => ?_, fun id x ho i hi => ?_⟩, hE⟩
 ·by_cases e : id = j
  ·subst e
   have : o = o' := by simpa [upd] using ho.symm
   subst this
   exact hn hE
  ·have ho : mem id = some o := by simpa [upd, e] using ho
   exact RO.mono hE rfl (fun _ _ => rfl) (fun k hk => h5 k (fun e' => by subst e'; exact h.apart id o j _ ho hj e k hk hf)) (fun _ _ _ hp => hp) (h.objs id o ho)
 ·rw [h4]
  obtain ⟨y, hy, hq⟩ := same ho hk
  exact h.low id y hy k hq
 ·obtain ⟨y, hy, hq⟩ := same ho hk
  obtain ⟨y', hy', hq'⟩ := same ho' hk'
  exact h.apart id y id' y' hy hy' hne k hq hq'
 ·refine liv i ?_
  by_cases e : id = j
  ·subst e
   have : x = o' := by simpa [upd] using ho.symm
   subst this
   exact hl i hi
  ·exact h.live id x MJ i hi
end
theorem RVs.kill {B B' : Nat → Value} {w w' : World} {I I' : Nat → Nat → Prop} (hE : Ext w w' I I') {id : Nat} : ∀ {al : List A} {vs : List Value}, (∀ j ∈ al.flatMap A.ids, j ≠ id → B' j = B j) → RVs B w I al vs → RVs B' w' I' (al.map (A.kill id)) vs
 | [], [], _, _ => trivial
 | a :: al, v :: vs, hB, h => by
   refine ⟨⟨?_, h.1.2⟩, RVs.kill hE (fun j hj => hB j (by simp at hj ⊢; exact .inr hj)) h.2⟩
   rcases (A.dW (id := id) (a := a)).2 with e | ⟨e, hn⟩
   ·rw [e]; trivial
   ·rw [e]
    exact h.1.1.mono hE fun j hj => hB j (by simp [hj]) (fun e => hn (e ▸ hj))
theorem R1s.kill {B B' : Nat → Value} {w w' : World} {I I' : Nat → Nat → Prop} (hE : Ext w w' I I') {id : Nat} : ∀ {al : List A1} {vs : List Value}, (∀ j ∈ al.flatMap A1.ids, j ≠ id → B' j = B j) → R1s B w I al vs → R1s B' w' I' (al.map (A1.kill id)) vs
 | [], [], _, _ => trivial
 | a :: al, v :: vs, hB, h => by
   refine ⟨?_, R1s.kill hE (fun j hj => hB j (by simp at hj ⊢; exact .inr hj)) h.2⟩
   rcases (A1.dW (id := id) (a := a)).2 with e | ⟨e, hn⟩
   ·rw [e]; trivial
   ·rw [e]
    exact h.1.mono hE fun j hj => hB j (by simp [hj]) (fun e => hn (e ▸ hj))
theorem REs.kill {B B' : Nat → Value} {w w' : World} {I I' : Nat → Nat → Prop} (hE : Ext w w' I I') {id : Nat} : ∀ {l : List (A1 × A1)} {es : List MapEntry}, (∀ j ∈ l.flatMap (fun p => p.1.ids ++ p.2.ids), j ≠ id → B' j = B j) → REs B w I l es → REs B' w' I' (l.map fun p => (p.1.kill id, p.2.kill id)) es
 | [], [], _, _ => trivial
 | p :: l, e :: es, hB, h => by
   have one : ∀ {a : A1} {v : Value}, (∀ j ∈ a.ids, j ≠ id → B' j = B j) → R1 B w I a v → R1 B' w' I' (a.kill id) v := fun {a v} hb hr => by
    rcases (A1.dW (id := id) (a := a)).2 with e | ⟨e, hn⟩
    ·rw [e]; trivial
    ·rw [e]
     exact hr.mono hE fun j hj => hb j hj (fun e => hn (e ▸ hj))
   exact ⟨⟨one (fun j hj => hB j (by simp [hj])) h.1.1, one (fun j hj => hB j (by simp [hj])) h.1.2⟩, REs.kill hE (fun j hj => hB j (by rw [List.flatMap_cons]; exact List.mem_append_right _ hj)) h.2⟩
theorem O.dW {id : Nat} {o : O} : ∀ i ∈ (O.kill id o).ids, i ∈ o.ids := by
 intro i hi
 cases o with
 | box ty cells =>
   simp only [O.kill, O.ids, List.mem_flatMap, List.mem_map] at hi
   obtain ⟨_, ⟨a, ha, rfl⟩, hi⟩ := hi
   exact List.mem_flatMap.2 ⟨a, ha, (A.dW.1 i hi).1⟩
 | rows ty xs =>
   simp only [O.kill, O.ids, List.mem_flatMap, List.mem_map] at hi
   obtain ⟨_, ⟨a, ha, rfl⟩, hi⟩ := hi
   exact List.mem_flatMap.2 ⟨a, ha, (A1.dW.1 i hi).1⟩
 | map ents =>
   simp only [O.kill, O.ids, List.mem_flatMap, List.mem_map] at hi
   obtain ⟨_, ⟨a, ha, rfl⟩, hi⟩ := hi
   refine List.mem_flatMap.2 ⟨a, ha, ?_⟩
   rw [List.mem_append] at hi ⊢
   exact hi.imp (fun h => (A1.dW.1 i h).1) (fun h => (A1.dW.1 i h).1)
 | _ => exact hi
theorem Cb {B B' : Nat → Value} {id j : Nat} {o : O} {k : Nat} (h : B' j = B j) : foot B' j (O.kill id o) k ↔ foot B j o k := by
 cases o <;> simp [foot, O.kill, h]
theorem RO.kill {B B' : Nat → Value} {w w' : World} {I I' : Nat → Nat → Prop} {id j : Nat} {o : O} (hE : Ext w w' I I') (hid : B' j = B j) (hB : ∀ i, i ≠ id → B' i = B i)
 (hb : ∀ k, foot B j o k → w'.heap[k]? = w.heap[k]?) (hI2 : ∀ k, foot B j o k → ∀ p, I' k p → I k p) (h : RO B w I j o) : RO B' w' I' j (O.kill id o) := by
 cases o with
 | box ty cells =>
   obtain ⟨b, vs, h1, h2, h3, h4⟩ := h
   have hf : foot B j (.box ty cells) b := ⟨0, h1⟩
   exact ⟨b, vs, hid.trans h1, (hb b hf).trans h2, h3.kill hE (fun i _ hi => hB i hi), fun p hp => h4 p (hI2 b hf p hp)⟩
 | rows ty xs =>
   obtain ⟨vs, h1, h2, h3, h4⟩ := h
   refine ⟨vs, ?_, h2.kill hE (fun i _ hi => hB i hi), h3, fun b hb' p hp => ?_⟩
   ·rw [hid, List.length_map]; exact h1.keep hb
   ·rw [hid] at hb'; exact h4 b hb' p (hI2 b hb' p hp)
 | map ents =>
   obtain ⟨r, es, clock, h1, h2, h3, h4⟩ := h
   exact ⟨r, es, clock, hid.trans h1, (hb r h1).trans h2, h3.kill hE (fun i _ hi => hB i hi), fun p hp => h4 p (hI2 r h1 p hp)⟩
 | arr ty e xs => exact RO.mono hE hid (fun i hi => absurd hi EW) hb hI2 h
 | raw x => exact RO.mono hE hid (fun i hi => absurd hi EW) hb hI2 h
 | mrow ty e xs => exact RO.mono hE hid (fun i hi => absurd hi EW) hb hI2 h
 | hole => exact RO.mono hE hid (fun i hi => absurd hi EW) hb hI2 h
 | names o => exact RO.mono hE hid (fun i hi => absurd hi EW) hb hI2 h
 | gone => trivial
theorem MR.BM {w0 w w' : World} {I0 I I' : Nat → Nat → Prop} {B : Nat → Value} {m : Mem} (h : MR w0 I0 B I m w) {id : Nat} {o0 o' : O} {v' : Value} (hid : m id = some o0) (h1 : w'.os = w.os) (h2 : w'.tape = w.tape) (h3 : w'.output = w.output) (hsize : w.heap.size ≤ w'.heap.size)
 (hkeep : ∀ b, b < w.heap.size → ¬ foot B id o0 b → w'.heap[b]? = w.heap[b]?) (hnew : ∀ k, foot (upd B id v') id o' k → k < w'.heap.size ∧ (foot B id o0 k ∨ w.heap.size ≤ k)) (hE : Ext w w' I I')
 (hI' : ∀ b p, I' b p → I b p ∨ foot (upd B id v') id o' b) (hob : RO (upd B id v') w' I' id o') (hl : ∀ i ∈ o'.ids, (m i).isSome = true) :
 MR w0 I0 (upd B id v') I' (upd (eH id m) id (some o')) w' := by
 have hlow := h.low id _ hid
 have hbel : Below w0.heap.size w0 w' := h.below.trans ⟨h1, h2, h3, hsize, fun b hb => hkeep b (Nat.lt_of_lt_of_le hb h.below.size) (fun e => by have := (hlow b e).1; omega)⟩
 have hBne : ∀ j, j ≠ id → upd B id v' j = B j := fun j hj => upd_ne _ _ hj
 have other : ∀ {j : Nat} {z : O}, upd (eH id m) id (some o') j = some z → (j = id ∧ z = o') ∨ (j ≠ id ∧ ∃ o, m j = some o ∧ z = O.kill id o) := fun {j z} hz => by
  unfold upd at hz
  split at hz
  ·rename_i e'; exact .inl ⟨e', (Option.some.inj hz).symm⟩
  ·rename_i e'
   have hz : (m j).map (O.kill id) = some z := hz
   cases hj : m j with
   | none => rw [hj] at hz; cases hz
   | some o => rw [hj] at hz; exact .inr ⟨e', o, rfl, (Option.some.inj hz).symm⟩
 have footk : ∀ {j : Nat} {o : O} {k : Nat}, j ≠ id → (foot (upd B id v') j (O.kill id o) k ↔ foot B j o k) := fun {j o k} hj => Cb (hBne j hj)
 have far : ∀ {j : Nat} {o : O} {k : Nat}, j ≠ id → m j = some o → foot B j o k → ¬ foot B id o0 k ∧ ¬ foot (upd B id v') id o' k := fun {j o k} hj ho hk => by
  have a1 : ¬ foot B id o0 k := fun e1 => h.apart j o id _ ho hid hj k hk e1
  refine ⟨a1, fun e1 => ?_⟩
  rcases (hnew k e1).2 with q | q
  ·exact a1 q
  ·have := (h.low j o ho k hk).2; omega
 have hlv : ∀ i, (m i).isSome = true → (upd (eH id m) id (some o') i).isSome = true := fun i hi => by
  unfold upd; split
  ·rfl
  ·simpa [aL] using hi
 refine ⟨hbel, h.glob, fun b o ho => hE.more _ _ (h.base b o ho), fun b o ho => ?_, fun b o ho => ?_, fun j z hz => ?_, fun j z hz k hk => ?_, fun j z j' z' hz hz' hne k hk hk' => ?_, fun j z hz i hi => ?_⟩
 ·rcases hI' b o ho with ho | ho
  ·exact h.old b o ho
  ·rcases (hnew b ho).2 with q | q
   ·exact .inr (hlow b q).1
   ·exact .inr (Nat.le_trans h.below.size q)
 ·rcases hI' b o ho with ho | ho
  ·exact Nat.lt_of_lt_of_le (h.there b o ho) hsize
  ·exact (hnew b ho).1
 ·rcases other hz with ⟨rfl, rfl⟩ | ⟨hj, o, ho, rfl⟩
  ·exact hob
  ·exact RO.kill hE (hBne j hj) hBne (fun k hk => hkeep k (h.low j o ho k hk).2 (far hj ho hk).1) (fun k hk p hp => (hI' k p hp).resolve_right (far hj ho hk).2) (h.objs j o ho)
 ·rcases other hz with ⟨rfl, rfl⟩ | ⟨hj, o, ho, rfl⟩
  ·refine ⟨?_, (hnew k hk).1⟩
   rcases (hnew k hk).2 with q | q
   ·exact (hlow k q).1
   ·exact Nat.le_trans h.below.size q
  ·have := h.low j o ho k ((footk hj).1 hk); omega
 ·rcases other hz with ⟨rfl, rfl⟩ | ⟨hj, o, ho, rfl⟩
  ·rcases other hz' with ⟨e1, -⟩ | ⟨hj', o', ho', rfl⟩
   ·exact hne e1.symm
   ·exact (far hj' ho' ((footk hj').1 hk')).2 hk
  ·rcases other hz' with ⟨rfl, rfl⟩ | ⟨hj', o', ho', rfl⟩
   ·exact (far hj ho ((footk hj).1 hk)).2 hk'
   ·exact h.apart j o j' o' ho ho' hne k ((footk hj).1 hk) ((footk hj').1 hk')
 ·rcases other hz with ⟨rfl, rfl⟩ | ⟨hj, o, ho, rfl⟩
  ·exact hlv i (hl i hi)
  ·exact hlv i (h.live j _ ho i (O.dW i hi))
end V
end Go.Proofs.YthhpcjoaogmhbaaGreatDoor
end
section
namespace Go.Proofs.YthhpcjoaogmhbaaGreatDoor
namespace V
open Go.RowKit
structure Tab where
 ty : Nat → Option (Nat × Bool)
 zero : Nat → Option (List Value)
 elem : Nat → Option (Nat × Nat)
 off : Nat → Nat → Option (Nat × Nat × Bool)
 bool : Nat → Bool
 fields : Nat → Option (List (Nat × Nat))
 bytes : Nat → Option Nat
 nilk : Nat → Option Nat
 int : Nat → Option IntKind
 map : Nat → Option (Nat × Nat)
 str : Nat → Bool
 one : Nat → Option Value
 seq : Nat → Option (List (Nat × Nat))
 eff : Nat → Bool
 lit : Bool := false
def TypeDesc.many : TypeDesc → Bool
 | .struct _ | .array _ _ => true
 | _ => false
def Dz : TypeDesc → Option Nat
 | .pointer _ => some 0
 | .slice _ => some 1
 | .map _ _ => some 2
 | .func _ _ _ => some 3
 | .interface _ => some 4
 | _ => none
def Qy : TypeDesc → Bool
 | .bool => true
 | .string => true
 | .int _ => true
 | _ => false
structure Tab.Ok (P : Go.Program) (T : Tab) : Prop where
 ty : ∀ t n g, T.ty t = some (n, g) → 0 < n ∧ (∃ i, P.info? t = some i ∧ i.size = n) ∧ ∃ d, P.underlying t = some d ∧ TypeDesc.many d = g ∧ (g = false → n = 1)
 zero : ∀ t vs, T.zero t = some vs → ∃ i z, P.info? t = some i ∧ i.zero = some z ∧ z.cells = vs.toArray ∧ ∀ v ∈ vs, v.oneCell' = true
 elem : ∀ t e n, T.elem t = some (e, n) → P.underlying t = some (.slice e) ∧ 0 < n ∧ ∃ i, P.info? e = some i ∧ i.size = n
 off : ∀ t f o n g, T.off t f = some (o, n, g) → ∃ fs fd, P.underlying t = some (.struct fs) ∧ fs[f]? = some fd ∧ fd.offset = o ∧ T.ty fd.type = some (n, g)
 bool : ∀ t, T.bool t = true → P.underlying t = some .bool
 fields : ∀ t l, T.fields t = some l → ∃ fs, P.underlying t = some (.struct fs) ∧ fs.toList.map (fun f => (P.info? f.type).map fun i => (f.offset, i.size)) = l.map some
 bytes : ∀ t b, T.bytes t = some b → ∃ i, P.info? t = some i ∧ i.bytes = b
 nilk : ∀ t k, T.nilk t = some k → ∃ d, P.underlying t = some d ∧ Dz d = some k
 int : ∀ t k, T.int t = some k → P.underlying t = some (.int k)
 map : ∀ t k e, T.map t = some (k, e) → P.underlying t = some (.map k e)
 str : ∀ t, T.str t = true → P.underlying t = some .string
 one : ∀ t v, T.one t = some v → ∃ i, P.info? t = some i ∧ i.zero = some v ∧ v.oneCell' = true
 seq : ∀ t l, T.seq t = some l → P.stoodInHeld t = false ∧ P.eqGuardType P.depth t = false ∧ (∃ fs, P.underlying t = some (.struct fs) ∧ fs.toList.map (fun f => (f.name == "_", f.type, f.offset)) = l.map fun p => (false, p.1, p.2)) ∧
  ∀ p ∈ l, ∃ d, P.underlying p.1 = some d ∧ Qy d = true
def ofConst : Value → A
 | .int k n => if (Lit.int k n).wf = true then .c (.int k n) else .top
 | .bool b => .c (.bool b)
 | .string s => if s.size ≤ kF then .c (.str s) else .top
 | .slice none 0 0 => .nil
 | .pointer none => .nilv (.pointer none)
 | .map none => .nilv (.map none)
 | .nilFunc => .nilv .nilFunc
 | .nilIface => .nilv .nilIface
 | _ => .top
def ev (s : Nat → A) : Operand → A
 | .tmp t => s t
 | .const v => ofConst v
 | .func f => .fn f []
 | .global _ => .top
def asC (mem : Mem) : A → Option C
 | .c x => some x
 | .nil => some (.sl [])
 | .own id => match mem id with | some (.arr _ _ xs) => some (.sl xs) | _ => none
 | .nn xs => some (.sl xs)
 | _ => none
def A.down : A → Option A1
 | .top => some .top
 | .c x => some (.c x)
 | .nil => some .nil
 | .ptr id off => some (.ptr id off)
 | .own id => some (.own id)
 | .map id => some (.map id)
 | .nilv v => some (.nilv v)
 | .nn xs => some (.c (.sl xs))
 | _ => none
def oU : List A → Option (List A1)
 | [] => some []
 | a :: l => match a.down, oU l with | some x, some xs => some (x :: xs) | _, _ => none
def qD (mem : Mem) : List A → Option (List C)
 | [] => some []
 | a :: l => match asC mem a, qD mem l with | some x, some xs => some (x :: xs) | _, _ => none
def gQ : A → Option (List A)
 | .top => none
 | .undef => none
 | .tup _ => none
 | .pinP .. => none
 | .pinC .. => none
 | .pinG .. => none
 | .agg xs => some (xs.map A.c)
 | .aggA xs => some (xs.map A1.up)
 | .tupA _ => none
 | .defs _ => none
 | .nilv v => if v.oneCell' = true then some [.nilv v] else none
 | a => some [a]
def ld (T : Tab) (mem : Mem) (ty : Nat) (cells : List A) : Option A :=
 match T.ty ty with
 | some (n, true) => if n ≤ cells.length then (match qD mem (cells.take n) with | some xs => some (.agg xs) | none => (match oU (cells.take n) with | some ys => some (.aggA ys) | none => none)) else none
 | some (_, false) => cells.head?
 | none => none
def ldR (T : Tab) (ty : Nat) (xs : List C) : Option A :=
 match T.ty ty with
 | some (n, true) => if n ≤ xs.length then some (.agg (xs.take n)) else none
 | some (_, false) => match xs with | x :: _ => some (.c x) | [] => none
 | none => none
def je (op : BinOp) (k : IntKind) (a b : Int) : Option C :=
 match op with
 | .add => some (.int k (k.wrap (a + b)))
 | .sub => some (.int k (k.wrap (a - b)))
 | .mul => some (.int k (k.wrap (a * b)))
 | .eql => some (.bool (decide (a = b)))
 | .neq => some (.bool (!decide (a = b)))
 | .lss => some (.bool (decide (a < b)))
 | .leq => some (.bool (decide (a ≤ b)))
 | .gtr => some (.bool (decide (b < a)))
 | .geq => some (.bool (decide (b ≤ a)))
 | .quo => if b = 0 then none else some (.int k (k.wrap (a.tdiv b)))
 | .rem => if b = 0 then none else some (.int k (a.tmod b))
 | .and => some (.int k (k.wrap (BitVec.ofInt k.bits a &&& BitVec.ofInt k.bits b).toNat))
 | .or => some (.int k (k.wrap (BitVec.ofInt k.bits a ||| BitVec.ofInt k.bits b).toNat))
 | .xor => some (.int k (k.wrap (BitVec.ofInt k.bits a ^^^ BitVec.ofInt k.bits b).toNat))
 | .andNot => some (.int k (k.wrap (BitVec.ofInt k.bits a &&& ~~~(BitVec.ofInt k.bits b)).toNat))
 | _ => none
def mP (op : BinOp) (k : IntKind) (a b : Int) : Option C :=
 match op with
 | .shl => if b < 0 then none else some (.int k (k.wrap (a * 2 ^ (min b.toNat k.bits))))
 | .shr => if b < 0 then none else some (.int k (a.fdiv (2 ^ (min b.toNat k.bits))))
 | _ => none
def oo (op : BinOp) (a b : ByteArray) : Option C :=
 match op with
 | .eql => some (.bool (a.toList == b.toList))
 | .neq => some (.bool !(a.toList == b.toList))
 | .lss => some (.bool (Op.bytesLess a.toList b.toList))
 | .leq => some (.bool (Op.bytesLess a.toList b.toList || a.toList == b.toList))
 | .gtr => some (.bool !(Op.bytesLess a.toList b.toList || a.toList == b.toList))
 | .geq => some (.bool !(Op.bytesLess a.toList b.toList))
 | .add => if a.size + b.size ≤ kF then some (.str (a ++ b)) else none
 | _ => none
def uJ (op : BinOp) (a b : Bool) : Option C :=
 match op with
 | .eql => some (.bool (a == b))
 | .neq => some (.bool !(a == b))
 | _ => none
def eqNil (k : Nat) : A → A → Option Bool
 | .nilv (.pointer none), .nilv (.pointer none) => if k = 0 then some true else none
 | .ptr _ _, .nilv (.pointer none) => if k = 0 then some false else none
 | .rptr _, .nilv (.pointer none) => if k = 0 then some false else none
 | .eptr _ _ _ _, .nilv (.pointer none) => if k = 0 then some false else none
 | .nil, .nil => if k = 1 then some true else none
 | .nn _, .nil => if k = 1 then some false else none
 | .nilv (.map none), .nilv (.map none) => if k = 2 then some true else none
 | .map _, .nilv (.map none) => if k = 2 then some false else none
 | .nilv .nilFunc, .nilv .nilFunc => if k = 3 then some true else none
 | .fn _ _, .nilv .nilFunc => if k = 3 then some false else none
 | .fnR _ _, .nilv .nilFunc => if k = 3 then some false else none
 | .ifc _ _, .nilv .nilIface => if k = 4 then some false else none
 | _, _ => none
def zq (op : BinOp) (r : Option Bool) : Option C :=
 match op, r with
 | .eql, some b => some (.bool b)
 | .neq, some b => some (.bool !b)
 | _, _ => none
def bin (isB : Bool) (nk : Option Nat) (op : BinOp) : A → A → Option C
 | .c (.int k a), .c (.int k' b) => match op with
   | .shl => mP .shl k a b
   | .shr => mP .shr k a b
   | _ => if k = k' then je op k a b else none
 | .c (.str a), .c (.str b) => oo op a b
 | .c (.bool a), .c (.bool b) => if isB = true then uJ op a b else none
 | a, b => match nk with | some k => zq op (eqNil k a b) | none => none
theorem Ie {k : IntKind} {n : Int} : (Lit.int k n).wf = true ↔ k.min ≤ n ∧ n ≤ k.max := by simp [Lit.wf]
theorem OU {k : IntKind} {a b : Int} (h : (Lit.int k a).wf = true) : (Lit.int k (a.tmod b)).wf = true := by
 rw [Ie] at h ⊢
 have h0 : k.min ≤ 0 ∧ 0 ≤ k.max := by cases k <;> decide
 rcases Int.le_total 0 a with ha | ha
 ·have h1 := Int.tmod_nonneg b ha
  have h2 : a.tmod b ≤ a := by
   rw [Int.tmod_eq_emod_of_nonneg ha]
   rcases Int.le_total 0 b with hb | hb
   ·by_cases e : b = 0
    ·subst e; simp
    ·by_cases hlt : a < b
     ·rw [Int.emod_eq_of_lt ha hlt]; exact Int.le_refl _
     ·have := Int.emod_lt_of_pos a (show 0 < b by omega); omega
   ·have e : a % b = a % (-b) := (Int.emod_neg a b).symm
    rw [e]
    by_cases e0 : b = 0
    ·subst e0; simp
    ·by_cases hlt : a < -b
     ·rw [Int.emod_eq_of_lt ha hlt]; exact Int.le_refl _
     ·have := Int.emod_lt_of_pos a (show 0 < -b by omega); omega
  omega
 ·have e : a.tmod b = -((-a).tmod b) := by rw [Int.neg_tmod]; omega
  have ha' : 0 ≤ -a := by omega
  have h1 := Int.tmod_nonneg b ha'
  have h2 : (-a).tmod b ≤ -a := by
   rw [Int.tmod_eq_emod_of_nonneg ha']
   rcases Int.le_total 0 b with hb | hb
   ·by_cases e : b = 0
    ·subst e; simp
    ·by_cases hlt : -a < b
     ·rw [Int.emod_eq_of_lt ha' hlt]; exact Int.le_refl _
     ·have := Int.emod_lt_of_pos (-a) (show 0 < b by omega); omega
   ·have e : -a % b = -a % (-b) := (Int.emod_neg (-a) b).symm
    rw [e]
    by_cases e0 : b = 0
    ·subst e0; simp
    ·by_cases hlt : -a < -b
     ·rw [Int.emod_eq_of_lt ha' hlt]; exact Int.le_refl _
     ·have := Int.emod_lt_of_pos (-a) (show 0 < -b by omega); omega
  omega
theorem OI {k : IntKind} {a : Int} {n : Nat} (h : (Lit.int k a).wf = true) : (Lit.int k (a.fdiv (2 ^ n))).wf = true := by
 rw [Ie] at h ⊢
 have h0 : k.min ≤ 0 ∧ 0 ≤ k.max := by cases k <;> decide
 have hp : (0 : Int) < 2 ^ n := Int.pow_pos (by decide)
 rw [Int.fdiv_eq_ediv_of_nonneg _ (Int.le_of_lt hp)]
 rcases Int.le_total 0 a with ha | ha
 ·have h1 := Int.ediv_nonneg ha (Int.le_of_lt hp)
  have h2 : a / 2 ^ n ≤ a := Int.ediv_le_self _ ha
  omega
 ·have h2 : a ≤ a / 2 ^ n := by
   rw [Int.le_ediv_iff_mul_le hp]
   have := Int.mul_le_mul_of_nonpos_left ha (show (1 : Int) ≤ 2 ^ n by omega)
   rw [Int.mul_one] at this
   exact this
  have h3 : a / 2 ^ n ≤ 0 := by
   have : a / 2 ^ n < 0 + 1 := by rw [Int.ediv_lt_iff_lt_mul hp]; omega
   omega
  omega
theorem vG (k : IntKind) (n : Int) : (Lit.int k (k.wrap n)).wf = true := by
 cases k <;> simp [Lit.wf, IntKind.wrap, IntKind.min, IntKind.max, IntKind.bits, IntKind.signed] <;> omega
def jh (mem : Mem) : A → Option (List C)
 | .agg xs => some xs
 | a => match asC mem a with | some x => some [x] | none => none
def oW (place : Nat → Option (Nat × Nat)) : List C → List (Nat × Option (List C)) → Option (List C)
 | cells, [] => some cells
 | cells, (i, v) :: rest => match place i, v with
   | some (o, n), some xs => if xs.length = n ∧ o + n ≤ cells.length then oW place (cells.take o ++ (xs ++ cells.drop (o + n))) rest else none
   | _, _ => none
def xQ (T : Tab) (ty : Nat) : Option (List C) := match T.zero ty with | some vs => qD (fun _ => none) (vs.map ofConst) | none => none
def chunks (n : Nat) : Nat → List C → List (List C)
 | 0, _ => []
 | k + 1, cells => cells.take n :: chunks n k (cells.drop n)
theorem rC (n : Nat) : ∀ (len : Nat) (cells : List C), chunks n len cells = (List.range len).map fun i => (cells.drop (i * n)).take n
 | 0, _ => rfl
 | k + 1, cells => by
   rw [chunks, rC n k, List.range_succ_eq_map, List.map_cons, List.map_map]
   congr 1
   ·simp
   ·refine List.map_congr_left fun i _ => ?_
    simp only [Function.comp, List.drop_drop, Nat.succ_eq_add_one]
    rw [Nat.add_mul, Nat.one_mul, Nat.add_comm]
section
variable {w0 w : World} {I0 I : Nat → Nat → Prop} {B : Nat → Value} {mem : Mem}
theorem Rx (h : MR w0 I0 B I mem w) {id : Nat} {ty e : Nat} {xs : List (List C)} (ho : mem id = some (.arr ty e xs)) : RC w I (B id) (.sl xs) := by
 obtain ⟨vs, h1, h2, h3, h4⟩ := h.objs id _ ho
 have at' : ∀ {xs : List (List C)} (_ : ∀ x ∈ xs, x.length = e) (i j : Nat) (x : List C), xs[i]? = some x → j < e → (flat xs)[i * e + j]? = x[j]? := by
  intro xs
  induction xs with
  | nil => intro _ i j x hx _; simp at hx
  | cons y ys ih =>
    intro hl i j x hx hj
    have hy := hl y (by simp)
    cases i with
    | zero =>
      simp at hx; subst hx
      simp only [flat, List.flatten_cons, Nat.zero_mul, Nat.zero_add]
      rw [List.getElem?_append_left (by omega)]
    | succ i =>
      have := ih (fun z hz => hl z (by simp [hz])) i j x uQ hj
      simp only [flat, List.flatten_cons] at this ⊢
      rw [List.getElem?_append_right M5, hy, show (i + 1) * e + j - e = i * e + j by rw [Nat.add_mul]; omega]
      exact this
 have len : vs.length = xs.length * e := h1.1
 rcases h1.2 with ⟨hv, hn⟩ | ⟨g, cap, cur, hv, -, hg, hc, hm, hs, ht⟩
 ·rw [hv]
  have : xs = [] := List.length_eq_zero_iff.1 hn
  subst this
  exact .sl (e := e) (fun _ _ => undef) rfl (Nat.le_refl _) (Nat.zero_le _) (fun _ h => by simp at h) (fun i x hx => by simp at hx) (fun i j x c hx => by simp at hx)
 ·rw [hv]
  have hlt : ∀ i j x, xs[i]? = some x → j < e → i * e + j < xs.length * e := fun i j x hx hj => by
   have hi := (List.getElem?_eq_some_iff.1 hx).1
   have : (i + 1) * e ≤ xs.length * e := Nat.mul_le_mul_right _ hi
   rw [Nat.add_mul] at this; omega
  refine .sl (e := e) (fun i j => vs.getD (i * e + j) undef) rfl hc hm h3 (fun i x hx => ⟨g, 0, rfl, fun j hj => ?_⟩) (fun i j x c hx hj => ?_)
  ·rw [Nat.zero_add]
   refine ⟨(h4 g (by rw [hv]; rfl) _).2 (hlt i j x hx hj), ?_⟩
   have hl := hlt i j x hx hj
   simp only [World.cell?, hg]
   rw [← ht]
   have : i * e + j < cur.size := by rw [hs]; exact Nat.lt_of_lt_of_le hl (Nat.mul_le_mul_right _ hc)
   simp [hl, this]
  ·have hj' : j < e := by have := h3 x (List.mem_of_getElem? hx); have := (List.getElem?_eq_some_iff.1 hj).1; omega
   obtain ⟨v, hv1, hv2⟩ := h2.at (i * e + j) c (by rw [at' h3 i j x hx hj']; exact hj)
   simp [hv1]; exact hv2
theorem lV (h : MR w0 I0 B I mem w) {a : A} {v : Value} {x : C} (ha : asC mem a = some x) (hv : RV B w I a v) : RC w I v x := by
 cases a with
 | c y => simp [asC] at ha; subst ha; exact hv
 | nn xs => simp [asC] at ha; subst ha; exact hv.1
 | nil =>
   simp [asC] at ha; subst ha
   rw [show v = _ from hv]
   exact .sl (e := 0) (fun _ _ => undef) rfl (Nat.le_refl _) (Nat.zero_le _) (fun _ h => by simp at h) (fun i x hx => by simp at hx) (fun i j x c hx => by simp at hx)
 | own id =>
   simp only [asC] at ha
   split at ha
   ·rename_i ty e xs ho
    cases ha
    rw [show v = B id from hv.1]
    exact Rx h ho
   ·cases ha
 | _ => simp [asC] at ha
theorem lF (h : MR w0 I0 B I mem w) : ∀ {al : List A} {vs : List Value} {xs : List C}, qD mem al = some xs → RVs B w I al vs → RCs w I vs xs
 | [], [], _, ha, _ => by simp [qD] at ha; subst ha; trivial
 | a :: al, v :: vs, xs, ha, hv => by
   simp only [qD] at ha
   split at ha
   ·rename_i x ys h1 h2
    cases ha
    exact ⟨lV h h1 hv.1.1, lF h h2 hv.2⟩
   ·cases ha
theorem lg {a : A} {x : A1} {v : Value} (h : a.down = some x) (hv : RV B w I a v) : R1 B w I x v := by
 cases a <;> simp [A.down] at h <;> subst h <;> first | exact hv | exact hv.1 | trivial
theorem iH {a : A} {x : A1} (h : a.down = some x) : ∀ j ∈ x.ids, j ∈ a.ids := by
 cases a <;> simp [A.down] at h <;> subst h <;> simp [A1.ids, A.ids]
theorem oC : ∀ {al : List A} {vs : List Value} {xs : List A1}, oU al = some xs → RVs B w I al vs → R1s B w I xs vs ∧ ∀ u ∈ vs, u.oneCell' = true
 | [], [], _, ha, _ => by simp [oU] at ha; subst ha; exact ⟨trivial, fun _ h => by simp at h⟩
 | a :: al, v :: vs, xs, ha, hv => by
   simp only [oU] at ha
   split at ha
   ·rename_i x ys h1 h2
    cases ha
    obtain ⟨k1, k2⟩ := oC h2 hv.2
    refine ⟨⟨lg h1 hv.1.1, k1⟩, fun u hu => ?_⟩
    rcases List.mem_cons.1 hu with rfl | hu
    ·exact hv.1.2
    ·exact k2 u hu
   ·cases ha
theorem mF : ∀ {al : List A} {xs : List A1}, oU al = some xs → ∀ j ∈ xs.flatMap A1.ids, j ∈ al.flatMap A.ids
 | [], _, ha, j, hj => by simp [oU] at ha; subst ha; simp at hj
 | a :: al, xs, ha, j, hj => by
   simp only [oU] at ha
   split at ha
   ·rename_i x ys h1 h2
    cases ha
    rw [List.flatMap_cons, List.mem_append] at hj ⊢
    exact hj.imp (iH h1 j) (mF h2 j)
   ·cases ha
theorem Je : ∀ {xs : List A1} {vs : List Value}, R1s B w I xs vs → (∀ u ∈ vs, u.oneCell' = true) → RVs B w I (xs.map A1.up) vs
 | [], [], _, _ => trivial
 | x :: xs, v :: vs, h, h1 => ⟨⟨EY.2 h.1, h1 v (by simp)⟩, Je h.2 fun u hu => h1 u (by simp [hu])⟩
theorem RVs.take {al : List A} {vs : List Value} (k : Nat) (h : RVs B w I al vs) : RVs B w I (al.take k) (vs.take k) := by
 induction k generalizing al vs with
 | zero => trivial
 | succ k ih =>
   cases al <;> cases vs
   ·trivial
   ·exact h.elim
   ·exact h.elim
   ·exact ⟨h.1, ih h.2⟩
end
theorem kJ (b off j : Nat) : (⟨b, off, none⟩ : Addr).add j = ⟨b, off + j, none⟩ := by unfold Addr.add; split <;> simp_all
section
variable {P : Go.Program} {T : Tab} (hT : T.Ok P) {w : World}
include hT
theorem rU {t n : Nat} {g : Bool} (h : T.ty t = some (n, g)) : (isAgg t).run P w = .ok g w := by
 obtain ⟨-, -, d, hd, hm, -⟩ := hT.ty t n g h
 unfold isAgg
 simp only [Sem.run_bind, run_underlying hd, Result.andThen_ok]
 subst hm
 cases d <;> rfl
theorem run_sizeOf {t n : Nat} {g : Bool} (h : T.ty t = some (n, g)) : (sizeOf t).run P w = .ok n w := by
 obtain ⟨-, ⟨i, hi, hn⟩, -⟩ := hT.ty t n g h
 simp [sizeOf, typeInfo, hi, hn]
theorem jC {t n : Nat} (h : T.ty t = some (n, true)) {b off : Nat} {cs : List Value} (hl : cs.length = n) (hc : ∀ (j : Nat) v, cs[j]? = some v → w.cell? ⟨b, off + j, none⟩ = some v) :
 (loadVar t ⟨b, off, none⟩).run P w = .ok (.agg cs.toArray) w := by
 subst hl
 unfold loadVar
 simp only [Sem.run_bind, rU hT h, run_sizeOf hT h, Result.andThen_ok, if_true]
 rw [run_loadCells_list w ⟨b, off, none⟩ cs (fun j v hj => by rw [kJ]; exact hc j v hj)]
 rfl
theorem lI {t n : Nat} (h : T.ty t = some (n, false)) {a : Addr} {v : Value} (hc : w.cell? a = some v) : (loadVar t a).run P w = .ok v w := by
 unfold loadVar
 simp only [Sem.run_bind, rU hT h, Result.andThen_ok]
 simp [load, Sem.run, hc]
theorem nX {t f o n : Nat} {g : Bool} (h : T.off t f = some (o, n, g)) (b off : Nat) : (Instr.fieldAt t (.pointer (some ⟨b, off, none⟩)) f).run P w = .ok (.pointer (some ⟨b, off + o, none⟩)) w := by
 obtain ⟨fs, fd, hu, hf, rfl, ht⟩ := hT.off t f o n g h
 have h0 := (hT.ty _ _ _ ht).1
 unfold Instr.fieldAt
 simp only [Sem.run_bind, run_underlying hu, Result.andThen_ok, hf, Instr.sureAddr, fieldPlace, Sem.run_pure, run_sizeOf hT ht]
 rw [if_neg (by omega)]
 simp [kJ]
theorem CP {t f o n : Nat} (h : T.off t f = some (o, n, true)) (cs : List Value) : (Instr.field t (.agg cs.toArray) f).run P w = .ok (.agg ((cs.drop o).take n).toArray) w := by
 obtain ⟨fs, fd, hu, hf, rfl, ht⟩ := hT.off t f o n _ h
 unfold Instr.field
 simp only [Sem.run_bind, run_underlying hu, Result.andThen_ok, hf, asAgg, Sem.run_pure, part, rU hT ht, run_sizeOf hT ht, if_true]
 simp [List.extract_toArray, List.extract]
theorem uR {t f o n : Nat} (h : T.off t f = some (o, n, false)) {cs : List Value} {v : Value} (hv : cs[o]? = some v) : (Instr.field t (.agg cs.toArray) f).run P w = .ok v w := by
 obtain ⟨fs, fd, hu, hf, rfl, ht⟩ := hT.off t f o n _ h
 unfold Instr.field
 simp only [Sem.run_bind, run_underlying hu, Result.andThen_ok, hf, asAgg, Sem.run_pure, part, rU hT ht]
 simp [hv]
theorem oq {t e n : Nat} (h : T.elem t = some (e, n)) {b off len cap : Nat} {k : IntKind} {i : Int} (h0 : 0 ≤ i) (hi : i < len) : (Instr.indexAt t (.slice (some ⟨b, off, none⟩) len cap) (.int k i)).run P w = .ok (.pointer (some ⟨b, off + i.toNat * n, none⟩)) w := by
 obtain ⟨hu, -, i', hi', hn⟩ := hT.elem t e n h
 unfold Instr.indexAt
 simp [asIntOf, run_underlying hu, h0, hi, sizeOf, typeInfo, hi', hn, kJ]
end
def jV : List A → Option (List Nat)
 | [] => some []
 | .ptr id 0 :: l => match jV l with | some ids => some (id :: ids) | none => none
 | _ :: _ => none
def sH (d : Nat) : Option A → Option Nat
 | none => some d
 | some (.c (.int _ k)) => if 0 ≤ k then some k.toNat else none
 | _ => none
def yS (n : Nat) (xs : List (List C)) (lo hi : Option A) : Option A :=
 match sH 0 lo, sH xs.length hi with
 | some l, some h => if l ≤ h ∧ h ≤ xs.length ∧ (l = 0 ∨ ∀ x ∈ xs, x.length = n) then some (.c (.sl ((xs.take h).drop l))) else none
 | _, _ => none
def qv1 (T : Tab) (s : Nat → A) (mem : Mem) (id : Nat) : Op → Option (A × Option O)
 | .move x => some (ev s x, none)
 | .assign x => some (ev s x, none)
 | .pick c a b => match ev s c with | .c (.bool true) => some (ev s a, none) | .c (.bool false) => some (ev s b, none) | _ => none
 | .box ty x => match gQ (ev s x) with | some l => some (.ptr id 0, some (.box ty l)) | none => none
 | .alloc ty => match T.zero ty with | some vs => some (.ptr id 0, some (.box ty (vs.map ofConst))) | none => none
 | .load ty x => match ev s x with
   | .ptr j off => (match mem j with | some (.box _ cells) => (match ld T mem ty (cells.drop off) with | some r => some (r, none) | none => none) | _ => none)
   | .rptr xs => (match ldR T ty xs with | some r => some (r, none) | none => none)
   | _ => none
 | .fieldAddr ty x f => match T.off ty f with
   | some (o, _, _) => (match ev s x with | .ptr j off => some (.ptr j (off + o), none) | .rptr xs => some (.rptr (xs.drop o), none) | _ => none)
   | none => none
 | .field ty x f => match T.off ty f, ev s x with
   | some (o, n, true), .agg xs => some (.agg ((xs.drop o).take n), none)
   | some (o, _, false), .agg xs => (match xs[o]? with | some y => some (.c y, none) | none => none)
   | _, _ => none
 | .indexAddr ty x i => match T.elem ty, asC mem (ev s x), ev s i with
   | some (_, n), some (.sl xs), .c (.int _ k) => if 0 ≤ k then (match xs[k.toNat]? with | some cs => if cs.length = n then some (.rptr cs, none) else none | none => none) else none
   | _, _, _ => none
 | .binOp op ty x y _ => match bin (T.bool ty) (T.nilk ty) op (ev s x) (ev s y) with | some r => some (.c r, none) | none => none
 | .unOp .not _ x => match ev s x with | .c (.bool b) => some (.c (.bool !b), none) | _ => none
 | .extract x i => match ev s x with
   | .tup xs => (match xs[i]? with | some (true, us) => some (.agg us, none) | some (false, [y]) => some (.c y, none) | _ => none)
   | _ => none
 | .makeFunc (.func f) first caps => if first.size = 0 then (match jV (caps.toList.map (ev s)) with | some ids => some (.fn f ids, none) | none => none) else none
 | .nilCheck x => match ev s x with | .ptr j off => some (.ptr j off, none) | .rptr xs => some (.rptr xs, none) | .fn f ids => some (.fn f ids, none) | _ => none
 | .slice ty x lo hi none => match T.elem ty, asC mem (ev s x) with
   | some (_, n), some (.sl xs) => (match yS n xs (lo.map (ev s)) (hi.map (ev s)) with | some r => some (r, none) | none => none)
   | _, _ => none
 | .build ty parts => match T.fields ty, xQ T ty with
   | some l, some zs => (match oW (fun i => l[i]?) zs (parts.toList.map fun p => (p.1, jh mem (ev s p.2))) with | some xs => some (.agg xs, none) | none => none)
   | _, _ => none
 | .buildSlice ty len parts => if T.lit = true then none else match T.elem ty with
   | some (e, n) => (match xQ T e with
     | some zs => if zs.length = n ∧ 0 < len ∧ len * n ≤ 2 ^ 24 then (match oW (fun i => some (i * n, n)) (List.replicate len zs).flatten (parts.toList.map fun p => (p.1, jh mem (ev s p.2))) with | some xs => some (.c (.sl (chunks n len xs)), none) | none => none) else none
     | none => none)
   | none => none
 | .call c => match c.callee, c.args.toList, c.argTypes.toList with
   | .builtin .len, [x], [t] => (match T.elem t, asC mem (ev s x) with
     | some _, some (.sl xs) => some (.c (.int .i64 xs.length), none)
     | _, _ => none)
   | _, _, _ => none
 | _ => none
theorem FN (vs : List Value) : ∀ (j off : Nat) (cs : List Value), off + j + vs.length ≤ cs.length → (vs.zipIdx j).foldl (fun (a : Array Value) p => a.setIfInBounds (off + p.2) p.1) cs.toArray = (cs.take (off + j) ++ (vs ++ cs.drop (off + j + vs.length))).toArray := by
 induction vs with
 | nil => intro j off cs _; simp
 | cons v vs ih =>
   intro j off cs h
   have hlt : off + j < cs.length := by simp at h; omega
   rw [List.zipIdx_cons, List.foldl_cons]
   rw [show cs.toArray.setIfInBounds (off + j) v = (cs.set (off + j) v).toArray by simp]
   rw [ih (j + 1) off _ (by simp at h ⊢; omega)]
   congr 1
   rw [← Nat.add_assoc, List.take_set, List.length_cons, List.drop_set, if_pos (by omega)]
   rw [show off + j + 1 + vs.length = off + j + (vs.length + 1) by omega]
   rw [List.take_add_one, List.getElem?_eq_getElem hlt, List.set_append, if_neg (by simp; omega)]
   simp [List.length_take, Nat.min_eq_left (Nat.le_of_lt hlt)]
theorem lJ {α : Type} {n : Nat} {zs : List α} (hz : zs.length = n) : ∀ (len j : Nat), j < len * n → (List.replicate len zs).flatten[j]? = zs[j % n]?
 | 0, j, h => by omega
 | len + 1, j, h => by
   rw [List.replicate_succ, List.flatten_cons]
   by_cases hj : j < n
   ·rw [List.getElem?_append_left (by omega), Nat.mod_eq_of_lt hj]
   ·rw [List.getElem?_append_right (by omega), hz, lJ hz len (j - n) (by rw [Nat.add_mul] at h; omega)]
    congr 1
    exact (Nat.mod_eq_sub_mod (by omega)).symm
theorem fI {α : Type} {n : Nat} {zs : List α} (hz : zs.length = n) (len : Nat) : (List.replicate len zs).flatten.length = len * n := by
 simp [hz]
theorem Gu {w0 w : World} {I0 I : Nat → Nat → Prop} {B : Nat → Value} {mem : Mem} (h : MR w0 I0 B I mem w) {a : A} {v : Value} {xs : List C} (ha : jh mem a = some xs) (hv : RV B w I a v) : RCs w I v.cells.toList xs := by
 unfold jh at ha
 split at ha
 ·cases ha; obtain ⟨vs, rfl, hv⟩ := hv; exact hv
 ·split at ha
  ·rename_i x hx
   cases ha
   have := lV h hx hv
   rw [this.one.2]
   exact ⟨this, trivial⟩
  ·cases ha
theorem vR {w0 w : World} {I0 I : Nat → Nat → Prop} {B : Nat → Value} {mem : Mem} (h : MR w0 I0 B I mem w) {ρ : Operand → Value} {s : Nat → A} (hev : ∀ x, RV B w I (ev s x) (ρ x)) {place : Nat → Option (Nat × Nat)} :
 ∀ (l : List (Nat × Operand)) (cs : List Value) (xs r : List C), RCs w I cs xs → oW place xs (l.map fun p => (p.1, jh mem (ev s p.2))) = some r → ∃ us, Instr.fill place cs.toArray (l.map fun p => (p.1, ρ p.2)) = some us.toArray ∧ RCs w I us r ∧ us.length = cs.length
 | [], cs, xs, r, hc, hf => by simp [oW] at hf; subst hf; exact ⟨cs, rfl, hc, rfl⟩
 | (i, x) :: l, cs, xs, r, hc, hf => by
   simp only [List.map_cons, oW] at hf
   split at hf
   ·rename_i o n ys hp hy
    split at hf
    ·rename_i hh
     have hv := Gu h hy (hev x)
     have hvl := hv.length
     have hcl := hc.length
     have hsz : (ρ x).cells.size = n := by rw [← Array.length_toList, hvl]; exact hh.1
     obtain ⟨us, h1, h2, h3⟩ := vR h hev l (cs.take o ++ ((ρ x).cells.toList ++ cs.drop (o + n))) _ r ((hc.take o).append (hv.append (hc.drop _))) hf
     refine ⟨us, ?_, h2, ?_⟩
     ·simp only [List.map_cons, Instr.fill, hp]
      rw [if_neg Jg]
      have hfold := FN (ρ x).cells.toList 0 o cs Jg
      simp only [Nat.add_zero, Array.length_toList, hsz] at hfold
      have e : (ρ x).cells.zipIdx.foldl (fun cs (p : Value × Nat) => cs.setIfInBounds (o + p.2) p.1) cs.toArray = (cs.take o ++ ((ρ x).cells.toList ++ cs.drop (o + n))).toArray := by
       rw [← hfold, ← Array.foldl_toList]
       congr 1
       simp [Array.toList_zipIdx]
      rw [← h1, ← e]
     ·rw [h3]; simp [hsz]; omega
    ·cases hf
   ·cases hf
theorem iK {w : World} {I : Nat → Nat → Prop} {B : Nat → Value} {s : Nat → A} {a : Act} (hs : ∀ t, RV B w I (s t) (a.tmps.getD t undef)) (x : Operand) : RV B w I (ev s x) (a.eval x) := by
 cases x with
 | tmp t => exact hs t
 | const v =>
   show RV B w I (ofConst v) v
   unfold ofConst
   split
   ·split
    ·rename_i h; exact .int h
    ·trivial
   ·exact .bool
   ·split
    ·rename_i h; exact .str h
    ·trivial
   ·rfl
   ·rfl
   ·rfl
   ·rfl
   ·rfl
   ·trivial
 | global g => trivial
 | func f => rfl
theorem pW {B : Nat → Value} {w : World} {I : Nat → Nat → Prop} {a : A} {v : Value} {l : List A} (h : gQ a = some l) (hv : RV B w I a v) : RVs B w I l v.cells.toList := by
 cases a with
 | top => cases h
 | undef => cases h
 | tup _ => cases h
 | agg xs => cases h; obtain ⟨vs, rfl, h⟩ := hv; exact RVs.ofData h
 | c x => cases h; have := RC.one hv; rw [this.2]; exact ⟨⟨hv, this.1⟩, trivial⟩
 | nil => cases h; cases hv; exact ⟨⟨rfl, rfl⟩, trivial⟩
 | ptr id off => cases h; obtain ⟨b, h1, rfl⟩ := hv; exact ⟨⟨⟨b, h1, rfl⟩, rfl⟩, trivial⟩
 | rptr xs => cases h; obtain ⟨b, off, vs, rfl, h⟩ := hv; exact ⟨⟨⟨b, off, vs, rfl, h⟩, rfl⟩, trivial⟩
 | own id => cases h; obtain ⟨h1, a, n, cap, rfl⟩ := hv; exact ⟨⟨⟨h1, _, _, _, rfl⟩, rfl⟩, trivial⟩
 | fn f ids => cases h; cases hv; exact ⟨⟨rfl, rfl⟩, trivial⟩
 | pinP _ _ _ => cases h
 | pinC _ _ => cases h
 | pinG _ _ => cases h
 | eptr id e i f => cases h; obtain ⟨b, off, n, cap, h1, rfl⟩ := hv; exact ⟨⟨⟨b, off, n, cap, h1, rfl⟩, rfl⟩, trivial⟩
 | win id e lo hi => cases h; obtain ⟨ad, n, cap, h1, h2, h3, rfl⟩ := hv; exact ⟨⟨⟨ad, n, cap, h1, h2, h3, rfl⟩, rfl⟩, trivial⟩
 | map id => cases h; obtain ⟨h1, r, rfl⟩ := hv; exact ⟨⟨⟨h1, r, rfl⟩, rfl⟩, trivial⟩
 | nilv u =>
   unfold gQ at h
   dsimp only at h
   split at h
   ·rename_i hu
    cases h
    have e : v = u := hv
    have : u.cells = #[u] := by cases u <;> first | rfl | cases hu
    rw [e, this]; exact ⟨⟨rfl, hu⟩, trivial⟩
   ·cases h
 | ifc t x => cases h; obtain ⟨u, rfl, h1⟩ := hv; exact ⟨⟨⟨u, rfl, h1⟩, rfl⟩, trivial⟩
 | tupA _ => cases h
 | defs _ => cases h
 | fnR f caps => cases h; obtain ⟨ps, rfl, h1⟩ := hv; exact ⟨⟨⟨ps, rfl, h1⟩, rfl⟩, trivial⟩
 | aggA xs => cases h; obtain ⟨vs, rfl, h1, h2⟩ := hv; exact Je h1 h2
 | nn xs => cases h; obtain ⟨h1, a, n, cap, rfl⟩ := hv; exact ⟨⟨⟨h1, _, _, _, rfl⟩, rfl⟩, trivial⟩
theorem tq {s : Nat → A} {mem : Mem} (hl : ∀ t, ∀ j ∈ (s t).ids, (mem j).isSome = true) (x : Operand) : ∀ j ∈ (ev s x).ids, (mem j).isSome = true := by
 cases x with
 | tmp t => exact hl t
 | const v =>
   intro j hj
   simp only [ev, ofConst] at hj
   split at hj <;> (try split at hj) <;> simp [A.ids] at hj
 | global g => intro j hj; simp [ev, A.ids] at hj
 | func f => intro j hj; simp [ev, A.ids] at hj
theorem mR {a : A} {l : List A} (h : gQ a = some l) : ∀ j ∈ l.flatMap A.ids, j ∈ a.ids := by
 by_cases hn : ∃ u, a = .nilv u
 ·obtain ⟨u, rfl⟩ := hn
  simp only [gQ] at h
  split at h <;> cases h
  intro j hj
  simp [A.ids] at hj
 cases a <;> simp [gQ] at h
 case nilv u => exact absurd ⟨u, rfl⟩ hn
 all_goals subst h
 all_goals intro j hj
 case aggA xs =>
  simp only [List.mem_flatMap, List.mem_map] at hj
  obtain ⟨_, ⟨x, hx, rfl⟩, h⟩ := hj
  rw [tZ] at h
  exact List.mem_flatMap.2 ⟨x, hx, h⟩
 case agg xs =>
  simp only [List.mem_flatMap, List.mem_map] at hj
  obtain ⟨_, ⟨x, -, rfl⟩, h⟩ := hj
  simp [A.ids] at h
 all_goals (simp [A.ids] at hj ⊢; try exact hj)
theorem yC {B : Nat → Value} {w : World} {I : Nat → Nat → Prop} {ρ : Operand → Value} {s : Nat → A} (hev : ∀ x, RV B w I (ev s x) (ρ x)) : ∀ {l : List Operand} {ids : List Nat}, jV (l.map (ev s)) = some ids → l.map ρ = ids.map B ∧ ∀ j ∈ ids, ∃ x, j ∈ (ev s x).ids
 | [], ids, h => by simp [jV] at h; subst h; exact ⟨rfl, fun j hj => by simp at hj⟩
 | x :: l, ids, h => by
   have hx := hev x
   cases hx1 : ev s x with
   | ptr id off =>
     cases off with
     | zero =>
       simp only [List.map_cons, hx1, jV] at h
       split at h
       ·rename_i ids' h'
        cases h
        obtain ⟨e1, e2⟩ := yC hev h'
        rw [hx1] at hx
        obtain ⟨b, h1, h2⟩ := hx
        refine ⟨by simp [e1, h1, h2], fun j hj => ?_⟩
        rcases List.mem_cons.1 hj with rfl | hj
        ·exact ⟨x, by simp [hx1, A.ids]⟩
        ·exact e2 j hj
       ·cases h
     | succ n => simp [hx1, jV] at h
   | _ => simp [hx1, jV] at h
theorem iq {B : Nat → Value} {w : World} {I : Nat → Nat → Prop} : ∀ {vs : List Value}, (∀ v ∈ vs, v.oneCell' = true) → RVs B w I (vs.map ofConst) vs
 | [], _ => trivial
 | v :: vs, h => ⟨⟨iK (s := fun _ => .top) (a := ⟨#[], []⟩) (fun _ => trivial) (.const v), h v (by simp)⟩, iq fun u hu => h u (by simp [hu])⟩
theorem gX (v : Value) : (ofConst v).ids = [] := by
 unfold ofConst
 split <;> (try split) <;> rfl
section
variable {P : Go.Program} {T : Tab} {w0 w : World} {I0 I : Nat → Nat → Prop} {B : Nat → Value} {mem : Mem}
theorem BI (hT : T.Ok P) {t k : Nat} {a b : A} {u v : Value} {r : Bool} (ht : T.nilk t = some k) (ha : RV B w I a u) (hb : RV B w I b v) (h : eqNil k a b = some r) (x y : Operand) :
 (Op.equal t u v).run P w = .ok r w ∧ (∀ op, (eqGuard op t x y u v).run P w = .ok () w) ∧ (∀ op : BinOp, op = .eql ∨ op = .neq → binOp op t u v = (match op with | .eql => do pure (.bool (← Op.equal t u v)) | _ => do pure (.bool (!(← Op.equal t u v))))) := by
 obtain ⟨d, hd, hk⟩ := hT.nilk t k ht
 unfold eqNil at h
 show (Op.equalIn (9999 + 1) t _ _).run P w = _ ∧ _
 split at h
 all_goals first | (cases h; done) | skip
 all_goals split at h <;> cases h
 all_goals rename_i e; subst e
 all_goals cases d <;> simp only [Dz, Option.some.injEq, reduceCtorEq] at hk
 all_goals first | (exfalso; omega) | skip
 ·cases ha; cases hb
  exact ⟨by unfold Op.equalIn; simp [run_underlying hd], fun op => by unfold eqGuard; cases op <;> simp, fun op h => by rcases h with rfl | rfl <;> rfl⟩
 ·obtain ⟨b', -, rfl⟩ := ha; cases hb
  exact ⟨by unfold Op.equalIn; simp [run_underlying hd], fun op => by unfold eqGuard; cases op <;> simp, fun op h => by rcases h with rfl | rfl <;> rfl⟩
 ·obtain ⟨b', off, vs, rfl, -⟩ := ha; cases hb
  exact ⟨by unfold Op.equalIn; simp [run_underlying hd], fun op => by unfold eqGuard; cases op <;> simp, fun op h => by rcases h with rfl | rfl <;> rfl⟩
 ·obtain ⟨b', off, n, cap, -, rfl⟩ := ha; cases hb
  exact ⟨by unfold Op.equalIn; simp [run_underlying hd], fun op => by unfold eqGuard; cases op <;> simp, fun op h => by rcases h with rfl | rfl <;> rfl⟩
 ·cases ha; cases hb
  exact ⟨by unfold Op.equalIn; simp [run_underlying hd], fun op => by unfold eqGuard; cases op <;> simp, fun op h => by rcases h with rfl | rfl <;> rfl⟩
 ·obtain ⟨-, a', n, cap, rfl⟩ := ha; cases hb
  exact ⟨by unfold Op.equalIn; simp [run_underlying hd], fun op => by unfold eqGuard; cases op <;> simp, fun op h => by rcases h with rfl | rfl <;> rfl⟩
 ·cases ha; cases hb
  exact ⟨by unfold Op.equalIn; simp [run_underlying hd], fun op => by unfold eqGuard; cases op <;> simp, fun op h => by rcases h with rfl | rfl <;> rfl⟩
 ·obtain ⟨-, r, rfl⟩ := ha; cases hb
  exact ⟨by unfold Op.equalIn; simp [run_underlying hd], fun op => by unfold eqGuard; cases op <;> simp, fun op h => by rcases h with rfl | rfl <;> rfl⟩
 ·cases ha; cases hb
  exact ⟨by unfold Op.equalIn; simp [run_underlying hd], fun op => by unfold eqGuard; cases op <;> simp, fun op h => by rcases h with rfl | rfl <;> rfl⟩
 ·cases ha; cases hb
  exact ⟨by unfold Op.equalIn; simp [run_underlying hd], fun op => by unfold eqGuard; cases op <;> simp, fun op h => by rcases h with rfl | rfl <;> rfl⟩
 ·obtain ⟨ps, rfl, -⟩ := ha; cases hb
  exact ⟨by unfold Op.equalIn; simp [run_underlying hd], fun op => by unfold eqGuard; cases op <;> simp, fun op h => by rcases h with rfl | rfl <;> rfl⟩
 ·obtain ⟨u', rfl, -⟩ := ha; cases hb
  exact ⟨by unfold Op.equalIn; simp [run_underlying hd], fun op => by unfold eqGuard; cases op <;> simp, fun op h => by rcases h with rfl | rfl <;> rfl⟩
theorem PL (hT : T.Ok P) {op : BinOp} {t : TypeId} {x y : Operand} {a b : A} {u v : Value} {r : C} (ha : RV B w I a u) (hb : RV B w I b v) (h : bin (T.bool t) (T.nilk t) op a b = some r) :
 ∃ z, (do eqGuard op t x y u v; binOp op t u v : Sem Value).run P w = .ok z w ∧ RC w I z r := by
 unfold bin at h
 split at h
 ·rename_i k n k' m
  have hna := (RC.toInt ha).2
  cases ha; cases hb
  have hg : (eqGuard op t x y (.int k n) (.int k' m)).run P w = .ok () w := by unfold eqGuard; cases op <;> simp
  simp only [Sem.run_bind, hg, Result.andThen_ok]
  split at h
  ·unfold mP at h
   simp only at h
   split at h
   ·cases h
   ·rename_i hm
    cases h
    simp only [binOp, Op.shift, if_neg hm, Sem.run_pure]
    exact ⟨_, rfl, .int (vG _ _)⟩
  ·unfold mP at h
   simp only at h
   split at h
   ·cases h
   ·rename_i hm
    cases h
    simp only [binOp, Op.shift, if_neg hm, Sem.run_pure]
    exact ⟨_, rfl, .int (OI hna)⟩
  ·rename_i ns1 ns2
   split at h
   ·rename_i e
    subst e
    unfold je at h
    split at h
    case h_10 =>
     split at h
     ·cases h
     ·rename_i hm; cases h
      simp only [binOp, Op.intDiv, hm, ne_eq, not_true_eq_false, if_false, Sem.run_pure]
      exact ⟨_, rfl, .int (vG _ _)⟩
    case h_11 =>
     split at h
     ·cases h
     ·rename_i hm; cases h
      simp only [binOp, Op.intDiv, hm, ne_eq, not_true_eq_false, if_false, Sem.run_pure]
      exact ⟨_, rfl, .int (OU hna)⟩
    all_goals cases h
    all_goals simp only [binOp, Op.intArith, Op.intCmp, Op.intBits, ne_eq, not_true_eq_false, if_false, Sem.run_pure]
    all_goals refine ⟨_, rfl, ?_⟩
    all_goals first
     | exact .int (vG _ _)
     | (rw [show (n == m) = decide (n = m) by simp [BEq.beq]]; exact .bool)
     | (rw [show (n != m) = !decide (n = m) by simp [bne, BEq.beq]]; exact .bool)
     | exact .bool
   ·cases h
 ·rename_i s1 s2
  have z1 := (RC.toStr ha).2
  have z2 := (RC.toStr hb).2
  cases ha; cases hb
  have hg : (eqGuard op t x y (.string s1) (.string s2)).run P w = .ok () w := by unfold eqGuard; cases op <;> simp
  simp only [Sem.run_bind, hg, Result.andThen_ok]
  unfold oo at h
  split at h
  case h_7 =>
   split at h
   ·rename_i hz
    cases h
    have : ¬ (((s1.size + s2.size : Nat) : Int) > IntKind.i64.max) := by
     unfold kF at hz
     simp [IntKind.max, IntKind.signed, IntKind.bits]
     omega
    simp only [binOp, Op.stringOp, if_neg this, Sem.run_pure]
    exact ⟨_, rfl, .str (by simpa using hz)⟩
   ·cases h
  all_goals cases h
  all_goals simp only [binOp, Op.stringOp, Sem.run_pure]
  all_goals exact ⟨_, rfl, .bool⟩
 ·rename_i s1 s2
  split at h
  ·rename_i hb2
   have hu := hT.bool t hb2
   cases ha; cases hb
   have hg : (eqGuard op t x y (.bool s1) (.bool s2)).run P w = .ok () w := by unfold eqGuard; cases op <;> simp
   have he : (Op.equal t (.bool s1) (.bool s2)).run P w = .ok (s1 == s2) w := by
    show (Op.equalIn (9999 + 1) t _ _).run P w = _
    unfold Op.equalIn
    simp [run_underlying hu]
   simp only [Sem.run_bind, hg, Result.andThen_ok]
   unfold uJ at h
   split at h <;> cases h
   all_goals simp only [binOp, Sem.run_bind, he, Result.andThen_ok, Sem.run_pure]
   all_goals exact ⟨_, rfl, .bool⟩
  ·cases h
 ·split at h
  ·rename_i k hk
   unfold zq at h
   split at h
   ·rename_i q hq
    cases h
    obtain ⟨h1, h2, h3⟩ := BI hT hk ha hb hq x y
    simp only [Sem.run_bind, h2, Result.andThen_ok, h3 .eql (.inl rfl), h1, Sem.run_pure]
    exact ⟨_, rfl, .bool⟩
   ·rename_i q hq
    cases h
    obtain ⟨h1, h2, h3⟩ := BI hT hk ha hb hq x y
    simp only [Sem.run_bind, h2, Result.andThen_ok, h3 .neq (.inr rfl), h1, Sem.run_pure]
    exact ⟨_, rfl, .bool⟩
   ·cases h
  ·cases h
theorem rA {s : Nat → A} {a : Act} {x : Option Operand} {d l y : Nat} {code : BoundsCode} (hev : ∀ x, RV B w I (ev s x) (a.eval x)) (h : sH d (x.map (ev s)) = some l) (hl : l ≤ y) :
 (match x.map a.eval with | some v => Instr.sliceBound v y code | none => pure d : Sem Nat).run P w = .ok l w := by
 cases x with
 | none => simp [sH] at h; subst h; simp
 | some x =>
   have hx := hev x
   simp only [Option.map_some] at h ⊢
   unfold sH at h
   split at h
   ·rename_i e; cases e
   ·rename_i k n e
    cases e' : ev s x <;> rw [e'] at e <;> cases e
    rw [e'] at hx
    split at h
    ·rename_i h0
     cases h
     rw [(RC.toInt hx).1]
     have : n ≤ (y : Int) := by omega
     simp [Instr.sliceBound, asIntOf, h0, this]
    ·cases h
   ·cases h
theorem Ns {a : Option Addr} {len cap n : Nat} {xs : List (List C)} (hr : RC w I (.slice a len cap) (.sl xs)) {l h : Nat} (hlh : l ≤ h) (hh : h ≤ xs.length) (hn : l = 0 ∨ ∀ x ∈ xs, x.length = n) :
 RC w I (.slice (if cap = l then a else a.map (·.add (l * n))) (h - l) (cap - l)) (.sl ((xs.take h).drop l)) := by
 cases hr with
 | @sl _ _ _ e _ f h1 h2 h3 h4 h5 h6 =>
   have el : ∀ (i : Nat) x, ((xs.take h).drop l)[i]? = some x → xs[l + i]? = some x := fun i x hx => by
    rw [List.getElem?_drop, List.getElem?_take] at hx
    split at hx
    ·exact hx
    ·cases hx
   refine .sl (e := e) (fun i j => f (l + i) j) (by rw [List.length_drop, List.length_take]; omega) (by omega) (by omega) (fun x hx => h4 x (List.mem_of_mem_take (List.mem_of_mem_drop hx))) (fun i x hx => ?_) (fun i j x c hx hj => h6 _ _ _ _ (el i x hx) hj)
   have hx' := el i x hx
   obtain ⟨b, off, rfl, hc⟩ := h5 _ _ hx'
   have hlt := (List.getElem?_eq_some_iff.1 hx').1
   refine ⟨b, off + l * n, ?_, fun j hj => ?_⟩
   ·rw [if_neg (by omega)]
    simp [kJ]
   ·have he : l * n = l * e := by
     rcases hn with rfl | hn
     ·simp
     ·rw [← hn x (List.mem_of_getElem? hx'), h4 x (List.mem_of_getElem? hx')]
    have := hc j hj
    rw [he, show off + l * e + i * e + j = off + (l + i) * e + j by rw [Nat.add_mul]; omega]
    exact this
theorem OE (hT : T.Ok P) {s : Nat → A} {a : Act} {ty len : Nat} {parts : Array (Nat × Operand)} {e n : Nat} {zs xs : List C} (hm : MR w0 I0 B I mem w) (hev : ∀ x, RV B w I (ev s x) (a.eval x)) (he : T.elem ty = some (e, n)) (hz : xQ T e = some zs) (hh : zs.length = n ∧ 0 < len ∧ len * n ≤ 2 ^ 24)
 (hf : oW (fun i => some (i * n, n)) (List.replicate len zs).flatten (parts.toList.map fun p => (p.1, jh mem (ev s p.2))) = some xs) :
 ∃ us, (Instr.buildSlice ty len (parts.map fun p => (p.1, a.eval p.2))).run P w = .ok (.slice (some ⟨w.heap.size, 0, none⟩) len len) (w.alloc (.cells us.toArray e)) ∧ RCs w I us xs ∧ us.length = len * n ∧ 0 < n := by
 obtain ⟨hu, hn0, ei, hei, hes⟩ := hT.elem _ _ _ he
 unfold xQ at hz
 split at hz
 ·rename_i vs hvs
  obtain ⟨i, z, hi, hzz, hc, h1⟩ := hT.zero e vs hvs
  have hie : i = ei := Option.some.inj (hi.symm.trans hei)
  subst hie
  have hrc : RCs w I vs zs := lF (mem := fun _ => none) (B := B) (I := I) (I0 := I0) (w := w) (w0 := w0) ⟨hm.below, hm.glob, hm.base, hm.old, hm.there, fun _ _ h => absurd h (bO _), fun _ _ h => absurd h (bO _), fun _ _ _ _ h => absurd h (bO _), fun _ _ h => absurd h (bO _)⟩ hz (iq h1)
  have hvl : vs.length = n := hrc.length.trans hh.1
  have hbase : RCs w I (List.replicate len vs).flatten (List.replicate len zs).flatten := by
   refine RCs.of Qt fun j v x hv hx => ?_
   have hj : j < len * n := by have := (List.getElem?_eq_some_iff.1 hv).1; rwa [fI hvl] at this
   rw [lJ hvl _ _ hj] at hv
   rw [lJ hh.1 _ _ hj] at hx
   obtain ⟨v', h2, h3⟩ := hrc.at _ _ hx
   have : v' = v := Option.some.inj (h2.symm.trans hv)
   subst this; exact h3
  obtain ⟨us, h2, h3, h4⟩ := vR hm hev parts.toList _ _ xs hbase hf
  rw [fI hvl] at h4
  have hzr : (zeroValue e).run P w = .ok z w := by simp [zeroValue, typeInfo, hi, hzz]
  have hszr : (sizeOf e).run P w = .ok n w := by simp [sizeOf, typeInfo, hi, hes]
  have hbz : (Array.range (len * n)).map (z.cells[· % z.cells.size]!) = (List.replicate len vs).flatten.toArray := by
   apply Array.ext'
   apply List.ext_getElem?
   intro j
   rw [hc]
   by_cases hj : j < len * n
   ·have hjm : j % n < vs.length := by rw [hvl]; exact Nat.mod_lt _ hn0
    simp only [Array.toList_map, Array.toList_range, List.getElem?_map, List.getElem?_range hj, Option.map_some]
    rw [lJ hvl _ _ hj, List.getElem?_eq_getElem hjm]
    simp only [hvl, List.size_toArray, getElem!_def, List.getElem?_toArray, List.getElem?_eq_getElem hjm]
   ·rw [List.getElem?_eq_none (by simp; omega), List.getElem?_eq_none (by rw [fI hvl]; omega)]
  have hrun : (Instr.buildSlice ty len (parts.map fun p => (p.1, a.eval p.2))).run P w = .ok (.slice (some ⟨w.heap.size, 0, none⟩) len len) (w.alloc (.cells us.toArray e)) := by
   unfold Instr.buildSlice
   rw [Sem.run_bind, run_underlying hu, Result.andThen_ok]
   dsimp only
   rw [Sem.run_bind, hszr, Result.andThen_ok]
   rw [if_neg (by omega)]
   have hne : len * n ≠ 0 := Nat.mul_ne_zero (by omega) (by omega)
   have : Instr.fill (fun i => some (i * n, n)) (List.replicate len vs).flatten.toArray (parts.map fun p => (p.1, a.eval p.2)).toList = some us.toArray := by rw [← h2]; simp
   simp only [if_neg hne, Sem.run_bind, hzr, Result.andThen_ok, Sem.run_pure, hbz, this]
   simp [newRow]
  exact ⟨us, hrun, h3, h4, hn0⟩
 ·cases hz
theorem Pe (hT : T.Ok P) {s : Nat → A} {a : Act} {id : Nat} {r : A} {ob : Option O} {o : Oper} (hm : MR w0 I0 B I mem w) (hs : ∀ t, RV B w I (s t) (a.tmps.getD t undef)) (hl : ∀ t, ∀ j ∈ (s t).ids, (mem j).isSome = true)
 (hid : ob.isSome = true → mem id = none) (hq : qv1 T s mem id o.op = some (r, ob)) :
 ∃ v w' B' I', (execOp a.eval o).run P w = .ok (.value v) w' ∧ MR w0 I0 B' I' (mem.put id ob) w' ∧ Below w.heap.size w w' ∧ (∀ b p, I b p → I' b p) ∧ (∀ j, (mem j).isSome = true → B' j = B j) ∧ RV B' w' I' r v ∧
   ∀ j ∈ r.ids, (mem.put id ob j).isSome = true := by
 have hev : ∀ x, RV B w I (ev s x) (a.eval x) := iK hs
 have hel : ∀ x, ∀ j ∈ (ev s x).ids, (mem j).isSome = true := tq hl
 -- an operation that changes nothing
 have same : ∀ {v : Value} {r : A}, (execOp a.eval o).run P w = .ok (.value v) w → RV B w I r v → (∀ j ∈ r.ids, (mem j).isSome = true) → 
  ∃ v w' B' I', (execOp a.eval o).run P w = .ok (.value v) w' ∧ MR w0 I0 B' I' mem w' ∧ Below w.heap.size w w' ∧ (∀ b p, I b p → I' b p) ∧ (∀ j, (mem j).isSome = true → B' j = B j) ∧ RV B' w' I' r v ∧ ∀ j ∈ r.ids, (mem j).isSome = true :=
  fun h1 h2 h3 => ⟨_, w, B, I, h1, hm, Below.refl _ _, fun _ _ h => h, fun _ _ => rfl, h2, h3⟩
 -- a new box
 have box : ∀ {ty : Nat} {l : List A} {vs : List Value}, mem id = none → RVs B w I l vs → (∀ j ∈ l.flatMap A.ids, (mem j).isSome = true) → (execOp a.eval o).run P w = .ok (.value (.pointer (some ⟨w.heap.size, 0, none⟩))) (w.alloc (.cells vs.toArray ty)) →
  ∃ v w' B' I', (execOp a.eval o).run P w = .ok (.value v) w' ∧ MR w0 I0 B' I' (upd mem id (some (.box ty l))) w' ∧ Below w.heap.size w w' ∧ (∀ b p, I b p → I' b p) ∧ (∀ j, (mem j).isSome = true → B' j = B j) ∧ RV B' w' I' (.ptr id 0) v ∧ ∀ j ∈ (A.ptr id 0).ids, (upd mem id (some (.box ty l)) j).isSome = true :=
  fun hid h1 h2 h3 => ⟨_, _, _, _, h3, hm.box hid h1 h2, (Below.refl _ _).alloc (Nat.le_refl _) _, fun _ _ h => h, fun j hj => upd_ne _ _ (fun e => by subst e; simp [hid] at hj), ⟨w.heap.size, upd_same .., rfl⟩,
   fun j hj => by simp [A.ids] at hj; subst hj; simp [upd_same]⟩
 cases hop : o.op with
 | move x =>
   simp only [hop, qv1, Option.some.injEq, Prod.mk.injEq] at hq; obtain ⟨rfl, rfl⟩ := hq
   exact same (by simp [execOp, hop]) (hev x) (hel x)
 | assign x =>
   simp only [hop, qv1, Option.some.injEq, Prod.mk.injEq] at hq; obtain ⟨rfl, rfl⟩ := hq
   exact same (by simp [execOp, hop]) (hev x) (hel x)
 | pick c x y =>
   simp only [hop, qv1] at hq
   have hc := hev c
   split at hq
   ·rename_i e; rw [e] at hc; cases hq
    have e2 : a.eval c = .bool true := RC.toBool hc
    exact same (by simp [execOp, hop, asBool, e2]) (hev x) (hel x)
   ·rename_i e; rw [e] at hc; cases hq
    have e2 : a.eval c = .bool false := RC.toBool hc
    exact same (by simp [execOp, hop, asBool, e2]) (hev y) (hel y)
   ·cases hq
 | box ty x =>
   simp only [hop, qv1] at hq
   split at hq
   ·rename_i l e
    cases hq
    refine box (hid rfl) (pW e (hev x)) (fun j hj => hel x j (mR e j hj)) ?_
    simp [execOp, hop, Instr.box, newVar, newRow]
   ·cases hq
 | alloc ty =>
   simp only [hop, qv1] at hq
   split at hq
   ·rename_i vs e
    cases hq
    obtain ⟨i, z, hi, hz, hc, h1⟩ := hT.zero ty vs e
    refine box (hid rfl) (iq h1) (fun j hj => ?_) ?_
    ·simp only [List.mem_flatMap, List.mem_map] at hj
     obtain ⟨_, ⟨x, -, rfl⟩, h⟩ := hj
     simp [gX] at h
    ·simp [execOp, hop, Instr.alloc, zeroValue, typeInfo, hi, hz, newVar, newRow, hc]
   ·cases hq
 | load ty x =>
   simp only [hop, qv1] at hq
   have hx := hev x
   split at hq
   ·rename_i j off e
    rw [e] at hx
    split at hq
    ·rename_i ty' cells hj
     split at hq
     ·rename_i r' e3
      cases hq
      obtain ⟨b, vs, hB, hh, hv, -⟩ := hm.objs j _ hj
      obtain ⟨b', hB', e2⟩ := hx
      rw [hB] at hB'
      cases hB'
      have hcell : ∀ (k : Nat) v, (vs.drop off)[k]? = some v → w.cell? ⟨b, off + k, none⟩ = some v := fun k v hk => by
       simp only [World.cell?, hh]
       simpa using hk
      have hvd := hv.drop off
      unfold ld at e3
      split at e3
      ·rename_i n hty
       split at e3
       ·rename_i hn
        split at e3
        ·rename_i xs hxs
         cases e3
         have hlen := hvd.length
         refine same (v := .agg ((vs.drop off).take n).toArray) ?_ ⟨_, rfl, lF hm hxs (hvd.take n)⟩ (fun j hj => by simp [A.ids] at hj)
         simp only [execOp, hop, e2, Instr.loadAt, Instr.sureAddr, Sem.run_bind, Sem.run_pure, Result.andThen_ok]
         rw [jC hT hty (b := b) (off := off) (cs := (vs.drop off).take n) x9 (fun k v hk => ?_)]
         ·rfl
         ·rw [List.getElem?_take] at hk
          split at hk
          ·exact hcell k v hk
          ·cases hk
        ·split at e3
         ·rename_i ys hys
          cases e3
          have hlen := hvd.length
          obtain ⟨k1, k2⟩ := oC hys (hvd.take n)
          refine same (v := .agg ((vs.drop off).take n).toArray) ?_ ⟨_, rfl, k1, k2⟩ (fun i hi => hm.live j _ hj i ?_)
          ·simp only [execOp, hop, e2, Instr.loadAt, Instr.sureAddr, Sem.run_bind, Sem.run_pure, Result.andThen_ok]
           rw [jC hT hty (b := b) (off := off) (cs := (vs.drop off).take n) x9 (fun k v hk => ?_)]
           ·rfl
           ·rw [List.getElem?_take] at hk
            split at hk
            ·exact hcell k v hk
            ·cases hk
          ·obtain ⟨x, hx1, hx2⟩ := List.mem_flatMap.1 (mF hys i hi)
           exact List.mem_flatMap.2 ⟨x, List.mem_of_mem_drop (List.mem_of_mem_take hx1), hx2⟩
         ·cases e3
       ·cases e3
      ·rename_i n hty
       cases hcd : cells.drop off with
       | nil => rw [hcd] at e3; cases e3
       | cons y ys =>
         rw [hcd] at e3 hvd
         cases e3
         cases hvd2 : vs.drop off with
         | nil => rw [hvd2] at hvd; exact hvd.elim
         | cons u us =>
           rw [hvd2] at hvd
           have hc0 : w.cell? ⟨b, off, none⟩ = some u := by have := hcell 0 u (by rw [hvd2]; rfl); simpa using this
           refine same (v := u) ?_ hvd.1.1 (fun i hi => hm.live j _ hj i ?_)
           ·simp only [execOp, hop, e2, Instr.loadAt, Instr.sureAddr, Sem.run_bind, Sem.run_pure, Result.andThen_ok]
            rw [lI hT hty hc0]
            rfl
           ·have : r ∈ cells := List.mem_of_mem_drop (by rw [hcd]; simp)
            exact List.mem_flatMap.2 ⟨r, this, hi⟩
      ·cases e3
     ·cases hq
    ·cases hq
   ·rename_i xs e
    rw [e] at hx
    obtain ⟨b, off, vs, e2, hv, hc⟩ := hx
    split at hq
    ·rename_i r' e3
     cases hq
     unfold ldR at e3
     split at e3
     ·rename_i n hty
      split at e3
      ·rename_i hn
       cases e3
       have hlen := hv.length
       refine same (v := .agg (vs.take n).toArray) ?_ ⟨_, rfl, hv.take n⟩ (fun j hj => by simp [A.ids] at hj)
       simp only [execOp, hop, e2, Instr.loadAt, Instr.sureAddr, Sem.run_bind, Sem.run_pure, Result.andThen_ok]
       rw [jC hT hty (b := b) (off := off) (cs := vs.take n) x9 (fun k v hk => ?_)]
       ·rfl
       ·rw [List.getElem?_take] at hk
        split at hk
        ·exact (hc k v hk).2
        ·cases hk
      ·cases e3
     ·rename_i n hty
      split at e3
      ·rename_i y ys
       cases e3
       cases vs with
       | nil => exact hv.elim
       | cons u us =>
         have hc0 : w.cell? ⟨b, off, none⟩ = some u := by have := (hc 0 u rfl).2; simpa using this
         refine same (v := u) ?_ hv.1 (fun j hj => by simp [A.ids] at hj)
         simp only [execOp, hop, e2, Instr.loadAt, Instr.sureAddr, Sem.run_bind, Sem.run_pure, Result.andThen_ok]
         rw [lI hT hty hc0]
         rfl
      ·cases e3
     ·cases e3
    ·cases hq
   ·cases hq
 | fieldAddr ty x f =>
   simp only [hop, qv1] at hq
   have hx := hev x
   split at hq
   ·rename_i o' n g ho
    split at hq
    ·rename_i j off e
     cases hq
     rw [e] at hx
     obtain ⟨b, h1, h2⟩ := hx
     refine same (v := .pointer (some ⟨b, off + o', none⟩)) ?_ ⟨b, h1, rfl⟩ (fun i hi => hel x i (by rw [e]; exact hi))
     simp only [execOp, hop, h2, Sem.run_bind]
     rw [nX hT ho]
     rfl
    ·rename_i xs e
     cases hq
     rw [e] at hx
     obtain ⟨b, off, vs, h2, hv, hc⟩ := hx
     refine same (v := .pointer (some ⟨b, off + o', none⟩)) ?_ ⟨b, off + o', vs.drop o', rfl, hv.drop o', fun j x hj => ?_⟩ (fun i hi => by simp [A.ids] at hi)
     ·simp only [execOp, hop, h2, Sem.run_bind]
      rw [nX hT ho]
      rfl
     ·rw [List.getElem?_drop] at hj
      rw [Nat.add_assoc]
      exact hc _ _ hj
    ·cases hq
   ·cases hq
 | field ty x f =>
   simp only [hop, qv1] at hq
   have hx := hev x
   split at hq
   ·rename_i o' n xs ho e
    cases hq
    rw [e] at hx
    obtain ⟨vs, h2, hv⟩ := hx
    refine same (v := .agg ((vs.drop o').take n).toArray) ?_ ⟨_, rfl, (hv.drop o').take n⟩ (fun i hi => by simp [A.ids] at hi)
    simp only [execOp, hop, h2, Sem.run_bind]
    rw [CP hT ho]
    rfl
   ·rename_i o' n xs ho e
    rw [e] at hx
    obtain ⟨vs, h2, hv⟩ := hx
    split at hq
    ·rename_i y hy
     cases hq
     obtain ⟨v, hv1, hv2⟩ := hv.at o' y hy
     refine same (v := v) ?_ hv2 (fun i hi => by simp [A.ids] at hi)
     simp only [execOp, hop, h2, Sem.run_bind]
     rw [uR hT ho hv1]
     rfl
    ·cases hq
   ·cases hq
 | indexAddr ty x i =>
   simp only [hop, qv1] at hq
   have hx := hev x
   have hi := hev i
   split at hq
   ·rename_i et n xs k kn he hxs hk
    rw [hk] at hi
    have hkv : a.eval i = .int k kn := (RC.toInt hi).1
    split at hq
    ·rename_i h0
     split at hq
     ·rename_i cs hcs
      split at hq
      ·rename_i hcl
       cases hq
       have hrc := lV hm hxs hx
       generalize hax : a.eval x = xv at hrc
       cases hrc with
       | @sl aa n' cap e' xs f hn hc hmx hln ha hr =>
         obtain ⟨b, off, rfl, hcells⟩ := ha _ _ hcs
         have hlt := (List.getElem?_eq_some_iff.1 hcs).1
         have hee : e' = n := by rw [← hcl, hln cs (List.mem_of_getElem? hcs)]
         subst hee
         refine same (v := .pointer (some ⟨b, off + kn.toNat * e', none⟩)) ?_ ⟨b, off + kn.toNat * e', (List.range e').map (f kn.toNat), rfl, RCs.of (by simp [hcl]) (fun j v y hj hy => ?_), fun j v hj => ?_⟩ (fun i hi => by simp [A.ids] at hi)
         ·simp only [execOp, hop, hax, hkv, Sem.run_bind]
          rw [oq hT he h0 (by omega)]
          rfl
         ·rw [List.getElem?_map] at hj
          have hj' := (List.getElem?_eq_some_iff.1 hy).1
          rw [List.getElem?_range (by omega)] at hj
          cases hj
          exact hr _ _ _ _ hcs hy
         ·rw [List.getElem?_map] at hj
          by_cases hje : j < e'
          ·rw [List.getElem?_range hje] at hj
           cases hj
           exact hcells j hje
          ·rw [List.getElem?_eq_none (by simp; omega)] at hj
           cases hj
      ·cases hq
     ·cases hq
    ·cases hq
   ·cases hq
 | binOp op ty x y yt =>
   simp only [hop, qv1] at hq
   split at hq
   ·rename_i r' hr
    cases hq
    obtain ⟨z, h1, h2⟩ := PL hT (x := x) (y := y) (P := P) (hev x) (hev y) hr
    refine same (v := z) ?_ h2 (fun i hi => by simp [A.ids] at hi)
    simp only [execOp, hop]
    rw [Sem.run_bind, h1]
    rfl
   ·cases hq
 | unOp op ty x =>
   cases op with
   | not =>
     simp only [hop, qv1] at hq
     have hx := hev x
     split at hq
     ·rename_i b e
      cases hq
      rw [e] at hx
      have hxv : a.eval x = .bool b := RC.toBool hx
      exact same (v := .bool !b) (by simp [execOp, hop, hxv, Op.unary]) .bool (fun i hi => by simp [A.ids] at hi)
     ·cases hq
   | _ => simp [hop, qv1] at hq
 | extract x i =>
   simp only [hop, qv1] at hq
   have hx := hev x
   have RTat : ∀ {vs : List Value} {xs : List (Bool × List C)}, RTs w I vs xs → ∀ (j : Nat) y, xs[j]? = some y → ∃ v, vs[j]? = some v ∧ RT w I v y := by
    intro vs
    induction vs with
    | nil => intro xs h j y hy; cases xs with | nil => simp at hy | cons _ _ => exact h.elim
    | cons v vs ih =>
      intro xs h j y hy
      cases xs with
      | nil => exact h.elim
      | cons z zs =>
        cases j with
        | zero => simp at hy; subst hy; exact ⟨v, rfl, h.1⟩
        | succ j => simpa using ih h.2 j y (by simpa using hy)
   split at hq
   ·rename_i xs e
    rw [e] at hx
    obtain ⟨vs, h1, h2⟩ := hx
    split at hq
    ·rename_i us hus
     cases hq
     obtain ⟨v, hv, hr⟩ := RTat h2 i _ hus
     obtain ⟨ws, rfl, hr⟩ := hr
     exact same (v := .agg ws.toArray) QE ⟨_, rfl, hr⟩ (fun i hi => by simp [A.ids] at hi)
    ·rename_i y hus
     cases hq
     obtain ⟨v, hv, hr⟩ := RTat h2 i _ hus
     obtain ⟨y', e', hr⟩ := hr
     cases e'
     exact same (v := v) QE hr (fun i hi => by simp [A.ids] at hi)
    ·cases hq
   ·cases hq
 | makeFunc fn first caps =>
   cases fn with
   | func f =>
     simp only [hop, qv1] at hq
     split at hq
     ·rename_i hf
      split at hq
      ·rename_i ids hids
       cases hq
       obtain ⟨h1, h2⟩ := yC hev hids
       have hf' : first = #[] := by simpa using hf
       subst hf'
       refine same (v := .func (.func f) #[] (ids.map B).toArray) ?_ rfl (fun j hj => ?_)
       ·simp only [execOp, hop, Instr.makeFunc, Sem.run_bind, Sem.run_pure, Result.andThen_ok]
        rw [← h1]
        rw [← List.map_toArray]
        simp
       ·obtain ⟨x, hx⟩ := h2 j hj
        exact hel x j hx
      ·cases hq
     ·cases hq
   | _ => simp [hop, qv1] at hq
 | nilCheck x =>
   simp only [hop, qv1] at hq
   have hx := hev x
   have hlx := hel x
   split at hq
   ·rename_i j off e
    cases hq
    rw [e] at hx hlx
    obtain ⟨b, h1, h2⟩ := hx
    exact same (v := .pointer (some ⟨b, off, none⟩)) (by simp [execOp, hop, h2]) ⟨b, h1, rfl⟩ hlx
   ·rename_i xs e
    cases hq
    rw [e] at hx hlx
    obtain ⟨b, off, vs, h2, h3⟩ := hx
    exact same (v := .pointer (some ⟨b, off, none⟩)) (by simp [execOp, hop, h2]) ⟨b, off, vs, rfl, h3⟩ hlx
   ·rename_i f ids e
    cases hq
    rw [e] at hx hlx
    exact same (v := .func (.func f) #[] (ids.map B).toArray) (by simp [execOp, hop, show a.eval x = _ from hx]) rfl hlx
   ·cases hq
 | slice ty x lo hi mx =>
   cases mx with
   | some m => simp [hop, qv1] at hq
   | none =>
     simp only [hop, qv1] at hq
     have hx := hev x
     split at hq
     ·rename_i et n xs he hxs
      have hrc := lV hm hxs hx
      obtain ⟨hu, -, i', hi', hn'⟩ := hT.elem _ _ _ he
      split at hq
      ·rename_i r' hr
       cases hq
       generalize hax : a.eval x = xv at hrc
       have hsh : ∃ aa len cap, xv = .slice aa len cap := by cases hrc; exact ⟨_, _, _, rfl⟩
       obtain ⟨aa, len, cap, rfl⟩ := hsh
       have hlen : xs.length = len ∧ len ≤ cap := by cases hrc; exact ⟨by assumption, by assumption⟩
       unfold yS at hr
       split at hr
       ·rename_i l h el eh
        split at hr
        ·rename_i hh
         cases hr
         have hb := Ns hrc (n := n) hh.1 hh.2.1 hh.2.2
         refine same (v := _) ?_ hb (fun i hi => by simp [A.ids] at hi)
         have bl := rA (P := P) (w := w) (y := h) (code := .sliceB) hev el hh.1
         have bh : ∀ code, (match hi.map a.eval with | some v => Instr.sliceBound v cap code | none => pure len : Sem Nat).run P w = .ok h w := fun code => by
          rw [hlen.1] at eh
          exact rA hev eh (by omega)
         simp only [execOp, hop, hax, Instr.sliceAt, Sem.run_bind, run_underlying hu, Result.andThen_ok, Instr.slice, Instr.sliceBounds, Sem.run_pure, Option.isSome_none, Option.map_none]
         have bh' := bh .sliceAcap
         have hsz : (sizeOf et).run P w = .ok n w := by simp [sizeOf, typeInfo, hi', hn']
         cases hi <;> cases lo <;> simp only [Option.map_none, Option.map_some, Sem.run_pure, Result.ok.injEq, and_true] at bl bh' ⊢
         all_goals (try subst bl)
         all_goals (try subst bh')
         all_goals simp [*]
        ·cases hr
       ·cases hr
      ·cases hq
     ·cases hq
 | build ty parts =>
   simp only [hop, qv1] at hq
   split at hq
   ·rename_i l zs hl0 hz
    split at hq
    ·rename_i xs hf
     cases hq
     obtain ⟨fs, hu, hfs⟩ := hT.fields ty l hl0
     unfold xQ at hz
     split at hz
     ·rename_i vs hvs
      obtain ⟨i, z, hi, hzz, hc, h1⟩ := hT.zero ty vs hvs
      have hrc : RCs w I vs zs := by
       have := lF (mem := fun _ => none) (B := B) (I := I) (I0 := I0) (w := w) (w0 := w0) ⟨hm.below, hm.glob, hm.base, hm.old, hm.there, fun _ _ h => absurd h (bO _), fun _ _ h => absurd h (bO _), fun _ _ _ _ h => absurd h (bO _), fun _ _ h => absurd h (bO _)⟩ hz (iq h1)
       exact this
      obtain ⟨us, h2, h3, h4⟩ := vR hm hev parts.toList vs zs xs hrc hf
      refine same (v := .agg us.toArray) ?_ ⟨_, rfl, h3⟩ (fun i hi => by simp [A.ids] at hi)
      have hmap : ∀ (l : List (Nat × Nat)) (fl : List Field), fl.map (fun f => (P.info? f.type).map fun i => (f.offset, i.size)) = l.map some → (fl.mapM (m := Sem) fun f => do pure (f.offset, ← sizeOf f.type)).run P w = .ok l w := by
       intro l fl
       induction fl generalizing l with
       | nil => intro h; cases l with | nil => rfl | cons _ _ => cases h
       | cons f fl ih =>
         intro h
         cases l with
         | nil => cases h
         | cons p l =>
           simp only [List.map_cons, List.cons.injEq] at h
           obtain ⟨h5, h6⟩ := h
           cases hi : P.info? f.type with
           | none => rw [hi] at h5; cases h5
           | some i =>
             rw [hi] at h5
             cases h5
             have hsz : (do pure (f.offset, ← sizeOf f.type) : Sem (Nat × Nat)).run P w = .ok (f.offset, i.size) w := by simp [sizeOf, typeInfo, hi]
             rw [List.mapM_cons, Sem.run_bind, hsz, Result.andThen_ok, Sem.run_bind, ih l h6, Result.andThen_ok]
             rfl
      have hm2 : (fs.mapM (m := Sem) fun f => do pure (f.offset, ← sizeOf f.type)).run P w = .ok l.toArray w := by
       have := hmap l fs.toList hfs
       rw [← Array.toArray_toList (xs := fs), List.mapM_toArray, map_eq_pure_bind, Sem.run_bind, this, Result.andThen_ok]
       rfl
      have hzr : (zeroValue ty).run P w = .ok z w := by simp [zeroValue, typeInfo, hi, hzz]
      have hrun : (Instr.build ty (parts.map fun p => (p.1, a.eval p.2))).run P w = .ok (.agg us.toArray) w := by
       unfold Instr.build
       rw [Sem.run_bind, hzr, Result.andThen_ok]
       dsimp only
       rw [Sem.run_bind, run_underlying hu, Result.andThen_ok]
       dsimp only
       rw [Sem.run_bind, hm2, Result.andThen_ok, hc]
       have : Instr.fill (fun x => l.toArray[x]?) vs.toArray (parts.map fun p => (p.1, a.eval p.2)).toList = some us.toArray := by rw [← h2]; simp
       rw [this]
       rfl
      simp only [execOp, hop]
      rw [Sem.run_bind, hrun]
      rfl
     ·cases hz
    ·cases hq
   ·cases hq
 | buildSlice ty len parts =>
   simp only [hop, qv1] at hq
   split at hq
   ·cases hq
   split at hq
   ·rename_i e n he
    split at hq
    ·rename_i zs hz
     split at hq
     ·rename_i hh
      split at hq
      ·rename_i xs hf
       cases hq
       obtain ⟨hu, hn0, ei, hei, hes⟩ := hT.elem _ _ _ he
       unfold xQ at hz
       split at hz
       ·rename_i vs hvs
        obtain ⟨i, z, hi, hzz, hc, h1⟩ := hT.zero e vs hvs
        have hie : i = ei := Option.some.inj (hi.symm.trans hei)
        subst hie
        have hrc : RCs w I vs zs := lF (mem := fun _ => none) (B := B) (I := I) (I0 := I0) (w := w) (w0 := w0) ⟨hm.below, hm.glob, hm.base, hm.old, hm.there, fun _ _ h => absurd h (bO _), fun _ _ h => absurd h (bO _), fun _ _ _ _ h => absurd h (bO _), fun _ _ h => absurd h (bO _)⟩ hz (iq h1)
        have hvl : vs.length = n := hrc.length.trans hh.1
        have hbase : RCs w I (List.replicate len vs).flatten (List.replicate len zs).flatten := by
         refine RCs.of Qt fun j v x hv hx => ?_
         have hj : j < len * n := by have := (List.getElem?_eq_some_iff.1 hv).1; rwa [fI hvl] at this
         rw [lJ hvl _ _ hj] at hv
         rw [lJ hh.1 _ _ hj] at hx
         obtain ⟨v', h2, h3⟩ := hrc.at _ _ hx
         have : v' = v := Option.some.inj (h2.symm.trans hv)
         subst this; exact h3
        obtain ⟨us, h2, h3, h4⟩ := vR hm hev parts.toList _ _ xs hbase hf
        rw [fI hvl] at h4
        have hzr : (zeroValue e).run P w = .ok z w := by simp [zeroValue, typeInfo, hi, hzz]
        have hszr : (sizeOf e).run P w = .ok n w := by simp [sizeOf, typeInfo, hi, hes]
        have hbz : (Array.range (len * n)).map (z.cells[· % z.cells.size]!) = (List.replicate len vs).flatten.toArray := by
         apply Array.ext'
         apply List.ext_getElem?
         intro j
         rw [hc]
         by_cases hj : j < len * n
         ·have hjm : j % n < vs.length := by rw [hvl]; exact Nat.mod_lt _ hn0
          simp only [Array.toList_map, Array.toList_range, List.getElem?_map, List.getElem?_range hj, Option.map_some]
          rw [lJ hvl _ _ hj, List.getElem?_eq_getElem hjm]
          simp only [hvl, List.size_toArray, getElem!_def, List.getElem?_toArray, List.getElem?_eq_getElem hjm]
         ·rw [List.getElem?_eq_none (by simp; omega), List.getElem?_eq_none (by rw [fI hvl]; omega)]
        have hrun : (Instr.buildSlice ty len (parts.map fun p => (p.1, a.eval p.2))).run P w = .ok (.slice (some ⟨w.heap.size, 0, none⟩) len len) (w.alloc (.cells us.toArray e)) := by
         unfold Instr.buildSlice
         rw [Sem.run_bind, run_underlying hu, Result.andThen_ok]
         dsimp only
         rw [Sem.run_bind, hszr, Result.andThen_ok]
         rw [if_neg (by omega)]
         have hne : len * n ≠ 0 := Nat.mul_ne_zero (by omega) (by omega)
         have : Instr.fill (fun i => some (i * n, n)) (List.replicate len vs).flatten.toArray (parts.map fun p => (p.1, a.eval p.2)).toList = some us.toArray := by rw [← h2]; simp
         simp only [if_neg hne, Sem.run_bind, hzr, Result.andThen_ok, Sem.run_pure, hbz, this]
         simp [newRow]
        have hb : Below w.heap.size w (w.alloc (.cells us.toArray e)) := (Below.refl _ _).alloc (Nat.le_refl _) _
        have hmore : ∀ b o, I b o → (I b o ∨ (b = w.heap.size ∧ o < us.length)) := fun _ _ h => .inl h
        have hE := hm.ext hb hmore
        have hlen : xs.length = len * n := by rw [← h3.length, h4]
        have hlt : ∀ {i j : Nat}, i < len → j < n → i * n + j < len * n := fun {i j} hi hj => by
         have : (i + 1) * n ≤ len * n := Nat.mul_le_mul_right _ hi
         rw [Nat.add_mul] at this; omega
        have hchunk : ∀ (i : Nat) x, (chunks n len xs)[i]? = some x → i < len ∧ x = (xs.drop (i * n)).take n := fun i x hx => by
         rw [rC] at hx
         rw [List.getElem?_map] at hx
         by_cases hi : i < len
         ·rw [List.getElem?_range hi] at hx; cases hx; exact ⟨hi, rfl⟩
         ·rw [List.getElem?_eq_none (by simp; omega)] at hx; cases hx
        have hxl : ∀ {i : Nat}, i < len → ((xs.drop (i * n)).take n).length = n := fun {i} hi => by
         have : (i + 1) * n ≤ len * n := Nat.mul_le_mul_right _ hi
         rw [Nat.add_mul] at this
         rw [List.length_take, List.length_drop, hlen]; omega
        refine ⟨.slice (some ⟨w.heap.size, 0, none⟩) len len, _, B, _, ?_, hm.grow hb hmore (fun b o h => h.imp (fun k => k) fun ⟨k1, _⟩ => by subst k1; exact ⟨Nat.le_refl _, by simp⟩), hb, hmore, fun _ _ => rfl, ?_, fun i hi => by simp [A.ids] at hi⟩
        ·simp only [execOp, hop]
         rw [Sem.run_bind, hrun]
         rfl
        ·refine .sl (e := n) (fun i j => us.getD (i * n + j) undef) (by simp [rC]) (Nat.le_refl _) ?_ (fun x hx => ?_) (fun i x hx => ⟨w.heap.size, 0, rfl, fun j hj => ?_⟩) (fun i j x c hx hj => ?_)
         ·unfold maxLen; have : len * 1 ≤ len * n := Nat.mul_le_mul_left _ hn0; omega
         ·obtain ⟨i, hxi⟩ := List.getElem?_of_mem hx
          obtain ⟨hil, rfl⟩ := hchunk i x hxi
          exact hxl hil
         ·have hi := (hchunk i x hx).1
          have := hlt hi hj
          rw [Nat.zero_add]
          refine ⟨.inr ⟨rfl, by omega⟩, ?_⟩
          have hnew : (w.alloc (.cells us.toArray e)).heap[w.heap.size]? = some (.cells us.toArray e) := heap_alloc_new _ _
          simp only [World.cell?, hnew]
          have : i * n + j < us.length := by omega
          simp [this]
         ·obtain ⟨hi, rfl⟩ := hchunk i x hx
          have hj' : j < n := by have := (List.getElem?_eq_some_iff.1 hj).1; rw [hxl hi] at this; exact this
          rw [List.getElem?_take, if_pos hj', List.getElem?_drop] at hj
          obtain ⟨v, h5, h6⟩ := h3.at _ _ hj
          simp [h5]
          exact h6.mono hE
       ·cases hz
      ·cases hq
     ·cases hq
    ·cases hq
   ·cases hq
 | call c =>
   simp only [hop, qv1] at hq
   split at hq
   ·rename_i x t hc hargs hty
    have hx := hev x
    split at hq
    ·rename_i et xs he hxs
     cases hq
     obtain ⟨hu, -, i', hi', hn'⟩ := hT.elem _ _ _ he
     have hrc := lV hm hxs hx
     generalize hax : a.eval x = xv at hrc
     cases hrc with
     | @sl aa n cap e _ f hn hcp hmx hln ha hr =>
       obtain ⟨cal, args, tys⟩ := c
       simp only at hc hargs hty
       subst hc
       have ea : args = #[x] := by rw [← Array.toArray_toList (xs := args), hargs]
       have et : tys = #[t] := by rw [← Array.toArray_toList (xs := tys), hty]
       subst ea et
       refine same (v := .int .i64 xs.length) ?_ (.int ?_) (fun i hi => by simp [A.ids] at hi)
       ·simp [execOp, hop, resolve, invoke, builtin, Builtin.len_, hax, run_underlying hu, goInt, hn]
       ·rw [hn]
        simp [Lit.wf, IntKind.min, IntKind.max, IntKind.bits, IntKind.signed]
        unfold maxLen at hmx
        omega
    ·cases hq
   ·cases hq
 | _ => simp [hop, qv1] at hq
end
def Lv : C → C → Option Bool
 | .int k a, .int k' b => if k = k' then some (decide (a = b)) else none
 | .bool a, .bool b => some (a == b)
 | .str a, .str b => some (a.toList == b.toList)
 | _, _ => none
def q8 : List C → List C → Option Bool
 | [], [] => some true
 | x :: xs, y :: ys => match Lv x y, q8 xs ys with | some a, some b => some (a && b) | _, _ => none
 | _, _ => none
def vg : A1 → A1 → Option Bool
 | .c (.int k a), .c (.int k' b) => if k = k' then some (decide (a = b)) else none
 | .c (.str a), .c (.str b) => some (a.toList == b.toList)
 | .agg xs, .agg ys => q8 xs ys
 | _, _ => none
def gF (k : A1) : List (A1 × A1) → Option (Option (Nat × A1))
 | [] => some none
 | p :: l => match vg k p.1 with
   | some true => some (some (0, p.2))
   | some false => (match gF k l with | some (some (i, v)) => some (some (i + 1, v)) | some none => some none | none => none)
   | none => none
def Lp (L : List (List UInt8)) : A1 → Option A1 → Bool → Option (A × Option O)
 | .c (.str s), some (.c (.int .i64 0)), false => some (.c (.int .i64 (if L.contains s.data.toList = true then 1 else 0)), none)
 | _, _, _ => none
def xE (T : Tab) (ty : Nat) : Option A1 := match T.one ty with
 | some v => (ofConst v).down
 | none => (match T.zero ty with
   | some (v1 :: v2 :: vs) => (match qD (fun _ => none) ((v1 :: v2 :: vs).map ofConst) with | some xs => some (.agg xs) | none => none)
   | _ => none)
def Bw : Nat → List (Nat × Nat) → Bool
 | _, [] => true
 | j, p :: l => decide (p.2 = j) && Bw (j + 1) l
def Bp (T : Tab) (ft : Nat) : C → Bool
 | .int k _ => (match T.int ft with | some k' => decide (k = k') | none => false)
 | .bool _ => T.bool ft
 | .str _ => T.str ft
 | _ => false
def nM (T : Tab) : List (Nat × Nat) → List C → Bool
 | [], [] => true
 | p :: l, x :: xs => Bp T p.1 x && nM T l xs
 | _, _ => false
def mM (T : Tab) (kt : Nat) : A1 → Bool
 | .c (.int k _) => (match T.int kt with | some k' => decide (k = k') | none => false)
 | .c (.str _) => T.str kt
 | .agg xs => (match T.seq kt with | some l => Bw 0 l && nM T l xs | none => false)
 | _ => false
def nO (ok : Bool) (v : A1) (b : Bool) : A := if ok = true then .tupA [v, .c (.bool b)] else v.up
def eqT (T : Tab) (ft : Nat) : C → C → Option Bool
 | .int k a, .int k' b => if k = k' then (match T.int ft with | some _ => some (decide (a = b)) | none => none) else none
 | .bool a, .bool b => if T.bool ft = true then some (a == b) else none
 | .str a, .str b => if T.str ft = true then some (a.toList == b.toList) else none
 | _, _ => none
def uX (T : Tab) : List (Nat × Nat) → List C → List C → Option Bool
 | [], [], [] => some true
 | p :: l, a :: xs, b :: ys => match eqT T p.1 a b, uX T l xs ys with | some x, some y => some (x && y) | _, _ => none
 | _, _, _ => none
def EB : BinOp → Bool → Option C
 | .eql, b => some (.bool b)
 | .neq, b => some (.bool !b)
 | _, _ => none
def toR (mem : Mem) : A → Option (Bool × List C)
 | .agg xs => some (true, xs)
 | a => match asC mem a with | some x => some (false, [x]) | none => none
def toKey : A → Option A1
 | .c (.int k n) => some (.c (.int k n))
 | .c (.str s) => some (.c (.str s))
 | .agg xs => some (.agg xs)
 | _ => none
def mn3 (a b c : Int) : Int := if c < (if b < a then b else a) then c else (if b < a then b else a)
def mx3 (a b c : Int) : Int := if (if a < b then b else a) < c then c else (if a < b then b else a)
def vv : List Value → Bool
 | [.slice none 0 0] => true
 | _ => false
def vO (a : A) : Option (List A1) := match gQ a with | some l => oU l | none => none
def qV (place : Nat → Option (Nat × Nat)) : List A1 → List (Nat × Option (List A1)) → Option (List A1)
 | cells, [] => some cells
 | cells, (i, v) :: rest => match place i, v with
   | some (o, n), some xs => if xs.length = n ∧ o + n ≤ cells.length then qV place (cells.take o ++ (xs ++ cells.drop (o + n))) rest else none
   | _, _ => none
def qv2 (T : Tab) (s : Nat → A) (mem : Mem) (id : Nat) : Op → Option (A × Option O)
 | .buildSlice ty len parts => if T.lit = true then (match T.elem ty with
   | some (e, n) => (match xQ T e with
     | some zs => if zs.length = n ∧ 0 < len ∧ len * n ≤ 2 ^ 24 then (match oW (fun i => some (i * n, n)) (List.replicate len zs).flatten (parts.toList.map fun p => (p.1, jh mem (ev s p.2))) with | some xs => some (.own id, some (.mrow e n (chunks n len xs))) | none => none) else none
     | none => none)
   | none => none) else none
 | .build ty parts => match T.fields ty, T.zero ty with
   | some l, some zs => (match oU (zs.map ofConst) with
     | some z1 => (match qV (fun i => l[i]?) z1 (parts.toList.map fun p => (p.1, vO (ev s p.2))) with | some xs => some (.aggA xs, none) | none => none)
     | none => none)
   | _, _ => none
 | .load ty x => match ev s x with
   | .eptr j e i f => (match mem j with
     | some (.mrow _ e' xs) => if e' = e then (match xs[i]? with | some cs => (match ldR T ty (cs.drop f) with | some r => some (r, none) | none => none) | none => none) else none
     | some (.rows _ xs) => if e = 1 ∧ f = 0 then (match T.ty ty, xs[i]? with | some (_, false), some y => some (y.up, none) | _, _ => none) else none
     | _ => none)
   | _ => none
 | .fieldAddr ty x f => match T.off ty f, ev s x with
   | some (o, _, _), .eptr j e i g => some (.eptr j e i (g + o), none)
   | _, _ => none
 | .field ty x f => match T.off ty f, ev s x with
   | some (o, n, true), .aggA xs => some (.aggA ((xs.drop o).take n), none)
   | some (o, _, false), .aggA xs => (match xs[o]? with | some y => some (y.up, none) | none => none)
   | _, _ => none
 | .indexAddr ty x i => match T.elem ty, ev s x, ev s i with
   | some (_, n), .own j, .c (.int _ k) => (match mem j with
     | some (.mrow _ e xs) => if e = n ∧ 0 ≤ k ∧ k.toNat < xs.length then some (.eptr j n k.toNat 0, none) else none
     | some (.rows _ xs) => if n = 1 ∧ 0 ≤ k ∧ k.toNat < xs.length then some (.eptr j n k.toNat 0, none) else none
     | _ => none)
   | _, _, _ => none
 | .nilCheck x => match ev s x with | .eptr j e i f => some (.eptr j e i f, none) | .map j => some (.map j, none) | .fnR f caps => some (.fnR f caps, none) | _ => none
 | .slice ty x lo hi none => match T.elem ty, ev s x with
   | some (_, n), .own j => (match mem j with
     | some (.mrow _ e xs) => if e = n then (match sH 0 (lo.map (ev s)), sH xs.length (hi.map (ev s)) with | some l, some h => if l ≤ h ∧ h ≤ xs.length then some (.win j n l h, none) else none | _, _ => none) else none
     | _ => none)
   | _, _ => none
 | .makeSlice t l c => match T.elem t, ev s l, ev s c with
   | some (e, n), .c (.int .i64 k), .c (.int .i64 k') => (match T.bytes e, T.zero e with
     | some b, some vs => if k = k' ∧ 0 ≤ k ∧ vs.length = n ∧ k.toNat * b ≤ 140737488355328 ∧ k ≤ 9223372036854775807 then
        (if vv vs = true then some (.own id, some (.rows e (List.replicate k.toNat .nil))) else match qD (fun _ => none) (vs.map ofConst) with
        | some zs => some (.own id, some (.mrow e n (List.replicate k.toNat zs)))
        | none => (match vs with | [v] => (match (ofConst v).down with | some z => some (.own id, some (.rows e (List.replicate k.toNat z))) | none => none) | _ => none)) else none
     | _, _ => none)
   | _, _, _ => none
 | .makeMap t none => match T.map t with | some _ => some (.map id, some (.map [])) | none => none
 | .lookup t x k ok => match T.map t, toKey (ev s k) with
   | some (kt, e), some key => if mM T kt key = true then (match ev s x with
     | .map j => (match mem j with
       | some (.map ents) => (match gF key ents with
         | some (some (_, v)) => some (nO ok v true, none)
         | some none => (match xE T e with | some z => some (nO ok z false, none) | none => none)
         | none => none)
       | some (.names (some L)) => Lp L key (xE T e) ok
       | _ => none)
     | .nilv (.map none) => (match xE T e with | some z => some (nO ok z false, none) | none => none)
     | _ => none) else none
   | _, _ => none
 | .binOp op t x y _ => match T.seq t, ev s x, ev s y with
   | some l, .agg xs, .agg ys => if Bw 0 l = true then (match uX T l xs ys with
     | some b => (match EB op b with | some r => some (.c r, none) | none => none)
     | none => none) else none
   | _, _, _ => none
 | .convert a b x => match T.int a, T.int b, ev s x with
   | some _, some k', .c (.int _ n) => some (.c (.int k' (k'.wrap n)), none)
   | _, _, _ => none
 | .unOp .neg _ x => match ev s x with | .c (.int k n) => some (.c (.int k (k.wrap (0 - n))), none) | _ => none
 | .extract x i => match ev s x with
   | .tupA xs => (match xs[i]? with | some y => some (y.up, none) | none => none)
   | _ => none
 | .makeInterface t x => if ((T.int t).isSome || (T.fields t).isSome) = true then (match toR mem (ev s x) with | some r => some (.ifc t r, none) | none => none) else none
 | .call c => match c.callee, c.args.toList, c.argTypes.toList with
   | .builtin .len, [x], [t] => (match ev s x with
     | .own j => (match T.elem t, mem j with
       | some _, some (.mrow _ _ xs) => some (.c (.int .i64 xs.length), none)
       | some _, some (.rows _ xs) => some (.c (.int .i64 xs.length), none)
       | _, _ => none)
     | .map j => (match T.map t, mem j with | some _, some (.map ents) => if ents.length ≤ 4611686018427387904 then some (.c (.int .i64 ents.length), none) else none | _, _ => none)
     | .nilv (.map none) => (match T.map t with | some _ => some (.c (.int .i64 0), none) | none => none)
     | .c (.str s) => if T.str t = true then some (.c (.int .i64 s.size), none) else none
     | _ => none)
   | .builtin .min, [x, y], _ => (match ev s x, ev s y with
     | .c (.int k a), .c (.int k' b) => if k = k' then some (.c (.int k (if b < a then b else a)), none) else none
     | _, _ => none)
   | .builtin .max, [x, y], _ => (match ev s x, ev s y with
     | .c (.int k a), .c (.int k' b) => if k = k' then some (.c (.int k (if a < b then b else a)), none) else none
     | _, _ => none)
   | .builtin .min, [x, y, z], _ => (match ev s x, ev s y, ev s z with
     | .c (.int k a), .c (.int k' b), .c (.int k'' c) => if k = k' ∧ k = k'' then some (.c (.int k (mn3 a b c)), none) else none
     | _, _, _ => none)
   | .builtin .max, [x, y, z], _ => (match ev s x, ev s y, ev s z with
     | .c (.int k a), .c (.int k' b), .c (.int k'' c) => if k = k' ∧ k = k'' then some (.c (.int k (mx3 a b c)), none) else none
     | _, _, _ => none)
   | _, _, _ => none
 | _ => none
def qv (T : Tab) (s : Nat → A) (mem : Mem) (id : Nat) (op : Op) : Option (A × Option O) := match qv1 T s mem id op with | some r => some r | none => qv2 T s mem id op
theorem GK {n k : Nat} {zs : List Value} (hz : zs.length = n) (hn : 0 < n) : (madeCells zs.toArray (k * n)).toList = (List.replicate k zs).flatten := by
 refine List.ext_getElem? fun j => ?_
 by_cases hj : j < k * n
 ·rw [lJ hz k j hj]
  simp only [madeCells, Array.toList_map, Array.toList_range, List.getElem?_map, List.getElem?_range hj, Option.map_some, List.size_toArray, hz]
  have : j % n < zs.length := by rw [hz]; exact Nat.mod_lt _ hn
  simp [getElem!_pos, this]
 ·rw [List.getElem?_eq_none (by simp [madeCells]; omega), List.getElem?_eq_none (by rw [fI hz]; omega)]
section
variable {P : Go.Program} {T : Tab} {w0 w : World} {I0 I : Nat → Nat → Prop} {B : Nat → Value} {mem : Mem}
theorem Rh (h : MR w0 I0 B I mem w) {a : A} {v : Value} {r : Bool × List C} (ha : toR mem a = some r) (hv : RV B w I a v) : RT w I v r := by
 unfold toR at ha
 split at ha
 ·cases ha; exact hv
 ·split at ha
  ·rename_i x hx; cases ha; exact ⟨x, rfl, lV h hx hv⟩
  ·cases ha
theorem R1s.drop {xs : List A1} {vs : List Value} (k : Nat) (h : R1s B w I xs vs) : R1s B w I (xs.drop k) (vs.drop k) := by
 induction k generalizing xs vs with
 | zero => exact h
 | succ k ih =>
   cases xs <;> cases vs
   ·trivial
   ·exact h.elim
   ·exact h.elim
   ·exact ih h.2
theorem R1s.take {xs : List A1} {vs : List Value} (k : Nat) (h : R1s B w I xs vs) : R1s B w I (xs.take k) (vs.take k) := by
 induction k generalizing xs vs with
 | zero => trivial
 | succ k ih =>
   cases xs <;> cases vs
   ·trivial
   ·exact h.elim
   ·exact h.elim
   ·exact ⟨h.1, ih h.2⟩
theorem rowAt.cell {ty : TypeId} {e : Nat} {v : Value} {n : Nat} {vs : List Value} (h : rowAt w ty e v n vs) {b off cap : Nat} (hv : v = .slice (some ⟨b, off, none⟩) n cap) {j : Nat} {u : Value} (hj : vs[j]? = some u) : w.cell? ⟨b, off + j, none⟩ = some u := by
 rcases h.2 with ⟨e1, -⟩ | ⟨g, o, c, cur, e1, hg, hn, hm, hs, ht⟩
 ·rw [hv] at e1; cases e1
 ·rw [hv] at e1; cases e1
  have hl := (List.getElem?_eq_some_iff.1 hj).1
  rw [← ht] at hj
  rw [List.getElem?_take] at hj
  split at hj
  ·rw [List.getElem?_drop] at hj
   simp only [World.cell?, hg]
   simpa using hj
  ·cases hj
theorem rowAt.addr {ty : TypeId} {e : Nat} {v : Value} {n : Nat} {vs : List Value} (h : rowAt w ty e v n vs) (hn : 0 < n) : ∃ b off cap, v = .slice (some ⟨b, off, none⟩) n cap ∧ n ≤ cap ∧ cap ≤ maxLen := by
 rcases h.2 with ⟨-, e1⟩ | ⟨g, o, c, cur, e1, hg, hnc, hm, hs, ht⟩
 ·omega
 ·exact ⟨g, o, c, e1, hnc, hm⟩
theorem rowAt.shape {ty : TypeId} {e : Nat} {v : Value} {n : Nat} {vs : List Value} (h : rowAt w ty e v n vs) : ∃ ad cap, v = .slice ad n cap ∧ n ≤ cap := by
 rcases h.2 with ⟨e1, rfl⟩ | ⟨g, o, c, cur, e1, hg, hnc, hm, hs, ht⟩
 ·exact ⟨none, 0, e1, Nat.le_refl _⟩
 ·exact ⟨_, c, e1, hnc⟩
theorem l9 {e : Nat} : ∀ {xs : List (List C)}, (∀ x ∈ xs, x.length = e) → ∀ (i j : Nat) (x : List C), xs[i]? = some x → j < e → (flat xs)[i * e + j]? = x[j]?
 | [], _, i, j, x, hx, _ => by simp at hx
 | y :: ys, hl, 0, j, x, hx, hj => by
   simp at hx; subst hx
   simp only [flat, List.flatten_cons, Nat.zero_mul, Nat.zero_add]
   rw [List.getElem?_append_left (by rw [hl y (by simp)]; exact hj)]
 | y :: ys, hl, i + 1, j, x, hx, hj => by
   have := l9 (fun z hz => hl z (List.mem_cons_of_mem _ hz)) i j x uQ hj
   have hy := hl y (by simp)
   simp only [flat, List.flatten_cons] at this ⊢
   rw [List.getElem?_append_right M5, hy, show (i + 1) * e + j - e = i * e + j by rw [Nat.add_mul]; omega]
   exact this
theorem lC {e : Nat} : ∀ {xs : List (List C)}, (∀ x ∈ xs, x.length = e) → (flat xs).length = xs.length * e
 | [], _ => by simp [flat]
 | y :: ys, hl => by
   have := lC (fun z hz => hl z (List.mem_cons_of_mem _ hz))
   simp only [flat, List.flatten_cons, List.length_append, List.length_cons] at this ⊢
   rw [this, hl y (by simp), Nat.add_mul]; omega
theorem RCs.rep {vs : List Value} {zs : List C} (h : RCs w I vs zs) : ∀ k : Nat, RCs w I (List.replicate k vs).flatten (List.replicate k zs).flatten
 | 0 => trivial
 | k + 1 => by rw [List.replicate_succ, List.replicate_succ, List.flatten_cons, List.flatten_cons]; exact h.append (RCs.rep h k)
theorem R1s.rep {v : Value} {z : A1} (h : R1 B w I z v) : ∀ k : Nat, R1s B w I (List.replicate k z) (List.replicate k v)
 | 0 => trivial
 | k + 1 => ⟨h, R1s.rep h k⟩
theorem wI {k : IntKind} {a b : Int} (c : Prop) [Decidable c] (ha : (Lit.int k a).wf = true) (hb : (Lit.int k b).wf = true) : (Lit.int k (if c then a else b)).wf = true := by split <;> assumption
theorem NI {m : Mem} (h : MR w0 I0 B I m w) {j : Nat} {ty : TypeId} {xs : List A1} (hj : m j = some (.rows ty xs)) {i : Nat} {y : A1} (hy : xs[i]? = some y) : ∀ q ∈ y.up.ids, (m q).isSome = true := fun q hq =>
 h.live j _ hj q (List.mem_flatMap.2 ⟨y, List.mem_of_getElem? hy, by rw [tZ] at hq; exact hq⟩)
theorem uW {w : World} {I : Nat → Nat → Prop} {mem : Mem} (h : MR w0 I0 B I mem w) {vs : List Value} {zs : List C} (h1 : ∀ v ∈ vs, v.oneCell' = true) (hz : qD (fun _ => none) (vs.map ofConst) = some zs) : RCs w I vs zs := by
 have hn : MR w0 I0 B I (fun _ => none) w := ⟨h.below, h.glob, h.base, h.old, h.there, fun _ _ h => absurd h (bO _), fun _ _ h => absurd h (bO _), fun _ _ _ _ h => absurd h (bO _), fun _ _ h => absurd h (bO _)⟩
 exact lF hn hz (iq h1)
theorem Pt (hT : T.Ok P) {ft : Nat} {x y : C} {u v : Value} {b : Bool} (hu : RC w I u x) (hv : RC w I v y) (h : eqT T ft x y = some b) (n : Nat) :
 (Op.equalIn (n + 1) ft u v).run P w = .ok b w ∧ (isAgg ft).run P w = .ok false w := by
 unfold eqT at h
 split at h
 ·rename_i k a' k' b'
  cases hu; cases hv
  split at h
  ·rename_i hk
   subst hk
   split at h
   ·rename_i q hq
    cases h
    have hd := hT.int _ _ hq
    exact ⟨by rw [run_equalIn_int w n ft k q a' b' hd]; congr 1, by simp [isAgg, run_underlying hd]⟩
   ·cases h
  ·cases h
 ·cases hu; cases hv
  split at h
  ·rename_i hq
   cases h
   have hd := hT.bool _ hq
   exact ⟨run_equalIn_bool' w n ft _ _ hd, by simp [isAgg, run_underlying hd]⟩
  ·cases h
 ·cases hu; cases hv
  split at h
  ·rename_i hq
   cases h
   have hd := hT.str _ hq
   exact ⟨run_equalIn_string w n ft _ _ hd, by simp [isAgg, run_underlying hd]⟩
  ·cases h
 ·cases h
theorem AB (hT : T.Ok P) (n : Nat) : ∀ (fs : List Field) (l : List (Nat × Nat)) (j : Nat) (us vs : List Value) (xs ys : List C) (b : Bool), fs.map (fun f => (f.name == "_", f.type, f.offset)) = l.map (fun p => (false, p.1, p.2)) → Bw j l = true →
 RCs w I (us.drop j) xs → RCs w I (vs.drop j) ys → uX T l xs ys = some b → (Op.eqFields (n + 1) us.toArray vs.toArray fs).run P w = .ok b w
 | [], l, j, us, vs, xs, ys, b, hf, _, hu, hv, h => by
   cases l with
   | cons p l => simp at hf
   | nil =>
     cases xs with
     | cons x xs => simp [uX] at h
     | nil =>
       cases ys with
       | cons y ys => simp [uX] at h
       | nil =>
         simp only [uX, Option.some.injEq] at h
         subst h; rfl
 | f :: fs, l, j, us, vs, xs, ys, b, hf, ho, hu, hv, h => by
   cases l with
   | nil => simp at hf
   | cons p l =>
     simp only [List.map_cons, List.cons.injEq, Prod.mk.injEq] at hf
     obtain ⟨⟨f1, f2, f3⟩, hf⟩ := hf
     simp only [Bw, Bool.and_eq_true, decide_eq_true_eq] at ho
     cases xs with
     | nil => simp [uX] at h
     | cons x xs =>
       cases ys with
       | nil => simp [uX] at h
       | cons y ys =>
         simp only [uX] at h
         split at h
         ·rename_i b1 b2 h1 h2
          cases h
          cases hus : us.drop j with
          | nil => rw [hus] at hu; exact hu.elim
          | cons u us' =>
            cases hvs : vs.drop j with
            | nil => rw [hvs] at hv; exact hv.elim
            | cons v vs' =>
              rw [hus] at hu
              rw [hvs] at hv
              have eu : us[j]? = some u := by have := List.getElem?_drop (xs := us) (i := j) (j := 0); rw [hus] at this; simpa using this.symm
              have ev' : vs[j]? = some v := by have := List.getElem?_drop (xs := vs) (i := j) (j := 0); rw [hvs] at this; simpa using this.symm
              have du : us.drop (j + 1) = us' := by rw [← List.drop_drop, hus]; rfl
              have dv : vs.drop (j + 1) = vs' := by rw [← List.drop_drop, hvs]; rfl
              obtain ⟨q1, q2⟩ := Pt (P := P) hT hu.1 hv.1 h1 n
              rw [← f2] at q1 q2
              have hn : f.name ≠ "_" := by simpa using f1
              have ih := AB hT n fs l (j + 1) us vs xs ys b2 hf ho.2 (by rw [du]; exact hu.2) (by rw [dv]; exact hv.2) h2
              have pu : (part f.type us.toArray f.offset).run P w = .ok u w := by
               unfold part
               simp only [Sem.run_bind, q2, Result.andThen_ok]
               simp [f3, ho.1, eu]
              have pv : (part f.type vs.toArray f.offset).run P w = .ok v w := by
               unfold part
               simp only [Sem.run_bind, q2, Result.andThen_ok]
               simp [f3, ho.1, ev']
              simp only [Op.eqFields, if_pos hn, Sem.run_bind, pu, pv, q1, Result.andThen_ok]
              cases b1
              ·simp
              ·simp [ih]
         ·cases h
theorem yg (hT : T.Ok P) {kt : Nat} {x : C} {kv : Value} (hk : mM T kt (.c x) = true) (hr : R1 B w I (.c x) kv) : ∃ d, P.underlying kt = some d ∧ MapKept.IsKey d kv := by
 cases x with
 | int k n =>
   simp only [mM] at hk
   split at hk
   ·rename_i k' hk'
    have : k = k' := of_decide_eq_true hk
    subst this
    have hr : RC w I kv (.int k n) := hr
    cases hr
    exact ⟨_, hT.int _ _ hk', rfl⟩
   ·cases hk
 | str s =>
   have hr : RC w I kv (.str s) := hr
   cases hr
   exact ⟨_, hT.str _ hk, trivial⟩
 | bool b => cases hk
 | sl ys => cases hk
theorem M7 (hT : T.Ok P) {ft : Nat} {x : C} {u : Value} (hk : Bp T ft x = true) (hr : RC w I u x) (e : Bool) (n : Nat) : (Instr.checkKey e (n + 1) ft u).run P w = .ok () w ∧ (isAgg ft).run P w = .ok false w ∧ (∀ m, Instr.sameBits m u u = true) := by
 cases hr with
 | @int k a hw =>
   simp only [Bp] at hk
   split at hk
   ·rename_i k' hk'
    have hd := hT.int _ _ hk'
    exact ⟨by simp [Instr.checkKey, run_underlying hd], by simp [isAgg, run_underlying hd], fun m => by cases m <;> simp [Instr.sameBits]⟩
   ·cases hk
 | bool =>
   have hd := hT.bool _ hk
   exact ⟨by simp [Instr.checkKey, run_underlying hd], by simp [isAgg, run_underlying hd], fun m => by cases m <;> simp [Instr.sameBits]⟩
 | str =>
   have hd := hT.str _ hk
   exact ⟨by simp [Instr.checkKey, run_underlying hd], by simp [isAgg, run_underlying hd], fun m => MapKept.sameBits_self (d := .string) (k := .string _) trivial m⟩
 | sl => cases hk
theorem BZ (hT : T.Ok P) (e : Bool) (n : Nat) : ∀ (fs : List Field) (l : List (Nat × Nat)) (j : Nat) (us : List Value) (xs : List C), fs.map (fun f => (f.name == "_", f.type, f.offset)) = l.map (fun p => (false, p.1, p.2)) → Bw j l = true →
 RCs w I (us.drop j) xs → nM T l xs = true → (forIn fs PUnit.unit (fun f _ => if f.name ≠ "_" then do let v ← part f.type us.toArray f.offset; Instr.checkKey e (n + 1) f.type v; pure (ForInStep.yield PUnit.unit) else pure (ForInStep.yield PUnit.unit)) : Sem PUnit).run P w = .ok PUnit.unit w ∧ ∀ m, ∀ u ∈ us.drop j, Instr.sameBits m u u = true
 | [], l, j, us, xs, hf, _, hu, hk => by
   cases l with
   | cons p l => simp at hf
   | nil =>
     cases xs with
     | cons x xs => simp [nM] at hk
     | nil =>
       refine ⟨by simp, fun m u hm => ?_⟩
       cases hus : us.drop j with
       | nil => rw [hus] at hm; cases hm
       | cons u us' => rw [hus] at hu; exact hu.elim
 | f :: fs, l, j, us, xs, hf, ho, hu, hk => by
   cases l with
   | nil => simp at hf
   | cons p l =>
     simp only [List.map_cons, List.cons.injEq, Prod.mk.injEq] at hf
     obtain ⟨⟨f1, f2, f3⟩, hf⟩ := hf
     simp only [Bw, Bool.and_eq_true, decide_eq_true_eq] at ho
     cases xs with
     | nil => simp [nM] at hk
     | cons x xs =>
       simp only [nM, Bool.and_eq_true] at hk
       cases hus : us.drop j with
       | nil => rw [hus] at hu; exact hu.elim
       | cons u us' =>
         rw [hus] at hu
         have eu : us[j]? = some u := by have := List.getElem?_drop (xs := us) (i := j) (j := 0); rw [hus] at this; simpa using this.symm
         have du : us.drop (j + 1) = us' := by rw [← List.drop_drop, hus]; rfl
         obtain ⟨q1, q2, q3⟩ := M7 (P := P) hT hk.1 hu.1 e n
         rw [← f2] at q1 q2
         have hn : f.name ≠ "_" := by simpa using f1
         obtain ⟨ih1, ih2⟩ := BZ hT e n fs l (j + 1) us xs hf ho.2 (by rw [du]; exact hu.2) hk.2
         have pu : (part f.type us.toArray f.offset).run P w = .ok u w := by
          unfold part
          simp only [Sem.run_bind, q2, Result.andThen_ok]
          simp [f3, ho.1, eu]
         refine ⟨?_, fun m v hv => ?_⟩
         ·simp only [List.forIn_cons, if_pos hn, Sem.run_bind, pu, q1, Result.andThen_ok, Sem.run_pure]
          exact ih1
         ·rcases List.mem_cons.1 hv with rfl | hv
          ·exact q3 m
          ·rw [← du] at hv; exact ih2 m v hv
theorem Ox {ft : Nat} {x y : C} {b : Bool} (hk : Bp T ft x = true) (h : Lv x y = some b) : eqT T ft x y = some b := by
 unfold Lv at h
 split at h
 ·split at h
  ·rename_i hkk
   cases h
   simp only [Bp] at hk
   split at hk
   ·rename_i q hq
    simp [eqT, hkk, hq]
   ·cases hk
  ·cases h
 ·cases h
  simp only [Bp] at hk
  simp [eqT, hk]
 ·cases h
  simp only [Bp] at hk
  simp [eqT, hk]
 ·cases h
theorem DX : ∀ {l : List (Nat × Nat)} {xs ys : List C} {b : Bool}, nM T l xs = true → q8 xs ys = some b → uX T l xs ys = some b
 | [], [], [], b, _, h => h
 | [], [], _ :: _, b, _, h => by simp [q8] at h
 | [], _ :: _, _, b, hk, _ => by simp [nM] at hk
 | _ :: _, [], _, b, hk, _ => by simp [nM] at hk
 | p :: l, x :: xs, [], b, _, h => by simp [q8] at h
 | p :: l, x :: xs, y :: ys, b, hk, h => by
   simp only [nM, Bool.and_eq_true] at hk
   simp only [q8] at h
   split at h
   ·rename_i b1 b2 h1 h2
    cases h
    simp only [uX, Ox hk.1 h1, DX hk.2 h2]
   ·cases h
theorem PW {x y : C} {u v : Value} (hu : RC w I u x) (hv : RC w I v y) (h : Lv x y = some true) : v = u := by
 unfold Lv at h
 split at h
 ·cases hu; cases hv
  split at h
  ·rename_i hk
   subst hk
   simp only [Option.some.injEq, decide_eq_true_eq] at h
   rw [h]
  ·cases h
 ·cases hu; cases hv
  simp only [Option.some.injEq, beq_iff_eq] at h
  rw [h]
 ·rename_i a a'
  cases hu; cases hv
  have : a.toList = a'.toList := by simpa using h
  rw [ByteArray.toList_eq, ByteArray.toList_eq] at this
  obtain ⟨⟨x⟩⟩ := a; obtain ⟨⟨y⟩⟩ := a'
  simp at this; rw [this]
 ·cases h
theorem Fw : ∀ {xs ys : List C} {us vs : List Value}, RCs w I us xs → RCs w I vs ys → q8 xs ys = some true → vs = us
 | [], [], [], [], _, _, _ => rfl
 | [], _ :: _, _, _, _, _, h => by simp [q8] at h
 | _ :: _, [], _, _, _, _, h => by simp [q8] at h
 | x :: xs, y :: ys, u :: us, v :: vs, hu, hv, h => by
   simp only [q8] at h
   split at h
   ·rename_i b1 b2 h1 h2
    simp only [Option.some.injEq, Bool.and_eq_true] at h
    obtain ⟨rfl, rfl⟩ := h
    rw [PW hu.1 hv.1 h1, Fw hu.2 hv.2 h2]
   ·cases h
structure KeyFine (P : Go.Program) (w : World) (kt : Nat) (kv : Value) : Prop where
 check : ∀ e, (Instr.checkKey e 10000 kt kv).run P w = .ok () w
 stays : (Instr.keyThatStays kv kv).run P w = .ok kv w
theorem Bc (hT : T.Ok P) {kt : Nat} {key : A1} {kv : Value} (hk : mM T kt key = true) (hr : R1 B w I key kv) : KeyFine P w kt kv := by
 cases key with
 | c x =>
   obtain ⟨d, h1, h2⟩ := yg hT hk hr
   exact ⟨fun e => MapKept.run_checkKey h1 h2 e 9999, MapKept.run_keyThatStays h2⟩
 | agg xs =>
   obtain ⟨us, rfl, hu⟩ := hr
   simp only [mM] at hk
   split at hk
   ·rename_i l hl
    rw [Bool.and_eq_true] at hk
    obtain ⟨h1, h2, ⟨fs, hfs, hfl⟩, -⟩ := hT.seq _ _ hl
    have key := fun e => BZ (P := P) hT e 9998 fs.toList l 0 us xs hfl hk.1 hu hk.2
    refine ⟨fun e => ?_, ?_⟩
    ·have k1 := (key e).1
     unfold Instr.checkKey
     simp only [Sem.run_bind, run_underlying hfs, Result.andThen_ok, ← Array.forIn_toList]
     rw [k1]
     rfl
    ·have k2 := (key false).2
     have : Instr.sameBits 10000 (.agg us.toArray) (.agg us.toArray) = true := by
      simp only [Instr.sameBits, beq_self_eq_true, Bool.true_and, List.all_eq_true]
      rintro ⟨a, b⟩ hab
      have hz : ∀ (l : List Value), (a, b) ∈ l.zip l → a = b ∧ a ∈ l := fun l => by
       induction l with
       | nil => intro h; simp at h
       | cons c l ih =>
         intro h
         rw [List.zip_cons_cons] at h
         rcases List.mem_cons.1 h with h | h
         ·cases h; exact ⟨rfl, by simp⟩
         ·exact ⟨(ih h).1, List.mem_cons_of_mem _ (ih h).2⟩
      obtain ⟨rfl, hm⟩ := hz _ hab
      exact k2 _ a (by simpa using hm)
     simp [Instr.keyThatStays, this]
   ·cases hk
 | _ => cases hk
theorem wV (hT : T.Ok P) {kt : Nat} {d : TypeDesc} {key : A1} {kv : Value} (hna : ∀ xs, key ≠ .agg xs) (hd : P.underlying kt = some d) (hk : mM T kt key = true) (hr : R1 B w I key kv) :
 ∀ {ents : List (A1 × A1)} {es : List MapEntry} (i : Nat) {r : Option (Nat × A1)}, REs B w I ents es → gF key ents = some r →
   (r = none ∧ Instr.findNow d kv es i = some none) ∨ ∃ q v e k', r = some (q, v) ∧ Instr.findNow d kv es i = some (some (i + q, e.val)) ∧ es[q]? = some e ∧ ents[q]? = some (k', v) ∧ e.key = kv ∧ R1 B w I v e.val
 | [], [], i, r, _, h => by
   simp only [gF, Option.some.injEq] at h
   exact .inl ⟨h.symm, rfl⟩
 | [], _ :: _, i, r, hR, _ => hR.elim
 | _ :: _, [], i, r, hR, _ => hR.elim
 | p :: ents, e :: es, i, r, hR, h => by
   have key1 : ∀ b, vg key p.1 = some b → Instr.sameNow d kv e.key = some b ∧ (b = true → e.key = kv) := fun b hb => by
    have h1 := hR.1.1
    unfold vg at hb
    split at hb
    ·rename_i e1 e2 k a k' a' hp
     rw [hp] at h1
     have hr : RC w I kv (.int k a) := hr
     have h1 : RC w I e.key (.int k' a') := h1
     split at hb
     ·rename_i hkk
      subst hkk
      cases hb
      obtain ⟨rfl, -⟩ := hr.toInt
      obtain ⟨h1, -⟩ := h1.toInt
      rw [h1]
      simp only [mM] at hk
      split at hk
      ·rename_i k' hk'
       have : k = k' := of_decide_eq_true hk
       subst this
       rw [hT.int _ _ hk'] at hd
       cases hd
       refine ⟨by simp [Instr.sameNow, BEq.beq], fun hb => ?_⟩
       rw [of_decide_eq_true hb]
      ·cases hk
     ·cases hb
    ·rename_i e1 e2 a a' hp
     rw [hp] at h1
     have hr : RC w I kv (.str a) := hr
     have h1 : RC w I e.key (.str a') := h1
     cases hb
     obtain ⟨rfl, -⟩ := hr.toStr
     obtain ⟨h1, -⟩ := h1.toStr
     rw [h1]
     rw [hT.str _ hk] at hd
     cases hd
     refine ⟨by simp [Instr.sameNow, beq_toListBytes], fun hb => ?_⟩
     have : a.toList = a'.toList := eq_of_beq hb
     rw [show a = a' from by
      rw [ByteArray.toList_eq, ByteArray.toList_eq] at this
      obtain ⟨⟨x⟩⟩ := a; obtain ⟨⟨y⟩⟩ := a'
      simp at this; rw [this]]
    ·exact absurd rfl (hna _)
    ·cases hb
   simp only [gF] at h
   split at h
   ·rename_i hb
    cases h
    obtain ⟨k1, k2⟩ := key1 _ hb
    refine .inr ⟨0, p.2, e, p.1, rfl, by simp [Instr.findNow, k1], rfl, rfl, k2 rfl, hR.1.2⟩
   ·rename_i hb
    obtain ⟨k1, -⟩ := key1 _ hb
    split at h
    ·rename_i q v hf
     cases h
     rcases wV hT hna hd hk hr (i + 1) hR.2 hf with ⟨e1, -⟩ | ⟨q', v', e', k', e1, e2, e3, e4, e5, e6⟩
     ·cases e1
     ·cases e1
      exact .inr ⟨q + 1, v, e', k', rfl, by simp only [Instr.findNow, k1, e2]; congr 3; omega, by simpa using e3, by simpa using e4, e5, e6⟩
    ·rename_i hf
     cases h
     rcases wV hT hna hd hk hr (i + 1) hR.2 hf with ⟨-, e2⟩ | ⟨q', v', e', k', e1, -⟩
     ·exact .inl ⟨rfl, by simp only [Instr.findNow, k1, e2]⟩
     ·cases e1
    ·cases h
   ·cases h
theorem Aa (hT : T.Ok P) {kt : Nat} {l : List (Nat × Nat)} {xs : List C} {us : List Value} (hl : T.seq kt = some l) (ho : Bw 0 l = true) (hk : nM T l xs = true) (hr : RCs w I us xs) :
 ∀ {ents : List (A1 × A1)} {es : List MapEntry} (i : Nat) {r : Option (Nat × A1)}, REs B w I ents es → gF (.agg xs) ents = some r →
   (r = none ∧ (Instr.findAsking kt (.agg us.toArray) es i).run P w = .ok none w) ∨ ∃ q v e k', r = some (q, v) ∧ (Instr.findAsking kt (.agg us.toArray) es i).run P w = .ok (some (i + q, e.val)) w ∧ es[q]? = some e ∧ ents[q]? = some (k', v) ∧ e.key = .agg us.toArray ∧ R1 B w I v e.val
 | [], [], i, r, _, h => by
   simp only [gF, Option.some.injEq] at h
   exact .inl ⟨h.symm, rfl⟩
 | [], _ :: _, i, r, hR, _ => hR.elim
 | _ :: _, [], i, r, hR, _ => hR.elim
 | p :: ents, e :: es, i, r, hR, h => by
   have key1 : ∀ b, vg (.agg xs) p.1 = some b → (Op.equal kt (.agg us.toArray) e.key).run P w = .ok b w ∧ (b = true → e.key = .agg us.toArray) := fun b hb => by
    have h1 := hR.1.1
    cases hp : p.1 with
    | agg ys =>
      rw [hp] at h1 hb
      obtain ⟨vs, hv, hvs⟩ := h1
      have hb : q8 xs ys = some b := hb
      obtain ⟨g1, g2, ⟨fs, hfs, hfl⟩, -⟩ := hT.seq _ _ hl
      have hfo : P.fieldsOf kt = fs := by simp [Program.fieldsOf, hfs]
      refine ⟨?_, fun hbt => ?_⟩
      ·rw [hv]
       show (Op.equalIn (9999 + 1) kt _ _).run P w = _
       rw [run_equalIn_struct w 9999 kt _ _ (by rw [hfo]; exact hfs) g1, hfo]
       exact AB hT 9998 _ l 0 us vs xs ys b hfl ho hr hvs (DX hk hb)
      ·subst hbt
       rw [hv, Fw hr hvs hb]
    | _ => rw [hp] at hb; cases hb
   simp only [gF] at h
   split at h
   ·rename_i hb
    cases h
    obtain ⟨k1, k2⟩ := key1 _ hb
    refine .inr ⟨0, p.2, e, p.1, rfl, by simp [Instr.findAsking, k1], rfl, rfl, k2 rfl, hR.1.2⟩
   ·rename_i hb
    obtain ⟨k1, -⟩ := key1 _ hb
    split at h
    ·rename_i q v hf
     cases h
     rcases Aa hT hl ho hk hr (i + 1) hR.2 hf with ⟨e1, -⟩ | ⟨q', v', e', k', e1, e2, e3, e4, e5, e6⟩
     ·cases e1
     ·cases e1
      refine .inr ⟨q + 1, v, e', k', rfl, ?_, by simpa using e3, by simpa using e4, e5, e6⟩
      simp only [Instr.findAsking, Sem.run_bind, k1, Result.andThen_ok, Bool.false_eq_true, if_false, e2]
      congr 3; omega
    ·rename_i hf
     cases h
     rcases Aa hT hl ho hk hr (i + 1) hR.2 hf with ⟨-, e2⟩ | ⟨q', v', e', k', e1, -⟩
     ·exact .inl ⟨rfl, by simp only [Instr.findAsking, Sem.run_bind, k1, Result.andThen_ok, Bool.false_eq_true, if_false, e2]⟩
     ·cases e1
    ·cases h
   ·cases h
theorem oK (hT : T.Ok P) {kt : Nat} {key : A1} {kv : Value} (hk : mM T kt key = true) (hr : R1 B w I key kv) {ents : List (A1 × A1)} {es : List MapEntry} {r : Option (Nat × A1)} (hR : REs B w I ents es) (hf : gF key ents = some r) :
 (r = none ∧ (Instr.findKey kt kv es).run P w = .ok none w) ∨ ∃ q v e k', r = some (q, v) ∧ (Instr.findKey kt kv es).run P w = .ok (some (q, e.val)) w ∧ es[q]? = some e ∧ ents[q]? = some (k', v) ∧ e.key = kv ∧ R1 B w I v e.val := by
 cases key with
 | c x =>
   obtain ⟨d, h1, h2⟩ := yg hT hk hr
   rcases wV hT (fun xs h => by cases h) h1 hk hr 0 hR hf with ⟨e1, e2⟩ | ⟨q, v, e, k', e1, e2, e3⟩
   ·exact .inl ⟨e1, MapKept.run_findKey h1 e2⟩
   ·exact .inr ⟨q, v, e, k', e1, MapKept.run_findKey h1 (by simpa using e2), e3⟩
 | agg xs =>
   obtain ⟨us, rfl, hu⟩ := hr
   simp only [mM] at hk
   split at hk
   ·rename_i l hl
    rw [Bool.and_eq_true] at hk
    obtain ⟨-, -, ⟨fs, hfs, -⟩, -⟩ := hT.seq _ _ hl
    have hrun : (Instr.findKey kt (.agg us.toArray) es).run P w = (Instr.findAsking kt (.agg us.toArray) es).run P w := by
     cases es with
     | nil => simp [Instr.findKey, run_underlying hfs, Instr.findNow, Instr.findAsking]
     | cons e es => simp [Instr.findKey, run_underlying hfs, Instr.findNow, Instr.sameNow]
    rw [hrun]
    rcases Aa hT hl hk.1 hk.2 hu 0 hR hf with ⟨e1, e2⟩ | ⟨q, v, e, k', e1, e2, e3⟩
    ·exact .inl ⟨e1, e2⟩
    ·exact .inr ⟨q, v, e, k', e1, by simpa using e2, e3⟩
   ·cases hk
 | _ => cases hk
def BD (es : List MapEntry) : List (A1 × A1) := es.map fun e => (.c (match e.key with | .string s => .str s | _ => .bool false), .c (.int .i64 1))
theorem J8 {es : List MapEntry} (h : ∀ e ∈ es, ∃ s : ByteArray, e.key = .string s ∧ s.size ≤ kF ∧ e.val = .int .i64 1) : REs B w I (BD es) es := by
 induction es with
 | nil => trivial
 | cons e es ih =>
   obtain ⟨s, h1, h2, h3⟩ := h e (by simp)
   refine ⟨⟨?_, ?_⟩, ih fun e he => h e (List.mem_cons_of_mem _ he)⟩
   ·show RC w I e.key _
    rw [h1]; exact .str h2
   ·show RC w I e.val _
    rw [h3]; exact .int (by decide)
theorem SL {es : List MapEntry} (h : ∀ e ∈ es, ∃ s : ByteArray, e.key = .string s ∧ s.size ≤ kF ∧ e.val = .int .i64 1) (s : ByteArray) :
 (gF (.c (.str s)) (BD es) = some none ∧ ∀ e ∈ es, e.key ≠ .string s) ∨ ∃ q e, gF (.c (.str s)) (BD es) = some (some (q, .c (.int .i64 1))) ∧ es[q]? = some e ∧ e.key = .string s := by
 induction es with
 | nil => exact .inl ⟨rfl, fun e he => by cases he⟩
 | cons e es ih =>
   obtain ⟨t, h1, h2, h3⟩ := h e (by simp)
   have hk : ∀ es, gF (.c (.str s)) (BD (e :: es)) = match some (s.toList == t.toList) with
    | some true => some (some (0, .c (.int .i64 1)))
    | some false => (match gF (.c (.str s)) (BD es) with | some (some (i, v)) => some (some (i + 1, v)) | some none => some none | none => none)
    | none => none := fun es => by
    show gF _ ((A1.c (match e.key with | .string s => .str s | _ => .bool false), A1.c (.int .i64 1)) :: BD es) = _
    rw [h1]; rfl
   by_cases hst : s = t
   ·subst hst
    exact .inr ⟨0, e, by rw [hk]; simp, rfl, h1⟩
   ·have hb : (s.toList == t.toList) = false := by
     rw [ByteArray.toList_eq, ByteArray.toList_eq]
     exact beq_eq_false_iff_ne.2 fun e => hst (WideShapes.bytes_inj e)
    rcases ih fun e he => h e (List.mem_cons_of_mem _ he) with ⟨i1, i2⟩ | ⟨q, e', i1, i2, i3⟩
    ·refine .inl ⟨by rw [hk, hb, i1], fun x hx => ?_⟩
     rcases List.mem_cons.1 hx with rfl | hx
     ·rw [h1]; exact fun e => hst (Value.string.inj e).symm
     ·exact i2 x hx
    ·exact .inr ⟨q + 1, e', by rw [hk, hb, i1], by simpa using i2, i3⟩
theorem wW (hT : T.Ok P) (hm : MR w0 I0 B I mem w) {t : Nat} {z : A1} (h : xE T t = some z) : ∃ v, (zeroValue t).run P w = .ok v w ∧ R1 B w I z v ∧ z.ids = [] := by
 unfold xE at h
 split at h
 ·rename_i v hv
  obtain ⟨i, hi, hz, h1⟩ := hT.one _ _ hv
  refine ⟨v, by simp [zeroValue, typeInfo, hi, hz], lg h (iq (B := B) (w := w) (I := I) (vs := [v]) BR).1.1, ?_⟩
  have := iH h
  rw [gX] at this
  exact List.eq_nil_iff_forall_not_mem.2 fun j hj => by simpa using this j hj
 ·split at h
  ·rename_i v1 v2 vs hz
   split at h
   ·rename_i xs hx
    cases h
    obtain ⟨i, z, hi, hz3, hzc, hz1⟩ := hT.zero _ _ hz
    have : z = .agg (v1 :: v2 :: vs).toArray := by
     cases z <;> simp [Value.cells] at hzc
     exact congrArg _ hzc
    subst this
    exact ⟨_, by simp [zeroValue, typeInfo, hi, hz3], ⟨_, rfl, uW hm hz1 hx⟩, rfl⟩
   ·cases h
  ·cases h
theorem FJ {a : A} {k : A1} {v : Value} (h : toKey a = some k) (hv : RV B w I a v) : R1 B w I k v ∧ k.ids = [] := by
 unfold toKey at h
 split at h <;> cases h
 ·exact ⟨hv, rfl⟩
 ·exact ⟨hv, rfl⟩
 ·exact ⟨hv, rfl⟩
theorem tQ {ok b : Bool} {z : A1} {v : Value} (h : R1 B w I z v) : RV B w I (nO ok z b) (if ok = true then .tuple #[v, .bool b] else v) := by
 unfold nO
 split
 ·exact ⟨[v, .bool b], rfl, h, .bool, trivial⟩
 ·exact EY.2 h
theorem j3 {ok b : Bool} {z : A1} : ∀ j ∈ (nO ok z b).ids, j ∈ z.ids := by
 intro j hj
 unfold nO at hj
 split at hj
 ·simpa [A.ids, A1.ids] using hj
 ·rwa [tZ] at hj
theorem R1s.append {xs ys : List A1} {vs us : List Value} (h : R1s B w I xs vs) (k : R1s B w I ys us) : R1s B w I (xs ++ ys) (vs ++ us) := by
 induction xs generalizing vs with
 | nil => cases vs with | nil => exact k | cons _ _ => exact h.elim
 | cons x xs ih => cases vs with | nil => exact h.elim | cons v vs => exact ⟨h.1, ih h.2⟩
theorem KN {a : A} {v : Value} {ys : List A1} (h : vO a = some ys) (hv : RV B w I a v) : R1s B w I ys v.cells.toList ∧ ∀ u ∈ v.cells.toList, u.oneCell' = true := by
 unfold vO at h
 split at h
 ·rename_i l hl
  exact oC h (pW hl hv)
 ·cases h
theorem Cy {ρ : Operand → Value} {s : Nat → A} (hev : ∀ x, RV B w I (ev s x) (ρ x)) {place : Nat → Option (Nat × Nat)} :
 ∀ (l : List (Nat × Operand)) (cs : List Value) (xs r : List A1), R1s B w I xs cs → (∀ v ∈ cs, v.oneCell' = true) → qV place xs (l.map fun p => (p.1, vO (ev s p.2))) = some r →
   ∃ us, Instr.fill place cs.toArray (l.map fun p => (p.1, ρ p.2)) = some us.toArray ∧ R1s B w I r us ∧ (∀ v ∈ us, v.oneCell' = true) ∧ us.length = cs.length
 | [], cs, xs, r, hc, h1, hf => by simp [qV] at hf; subst hf; exact ⟨cs, rfl, hc, h1, rfl⟩
 | (i, x) :: l, cs, xs, r, hc, h1, hf => by
   simp only [List.map_cons, qV] at hf
   split at hf
   ·rename_i o n ys hp hy
    split at hf
    ·rename_i hh
     obtain ⟨hv, hv1⟩ := KN hy (hev x)
     have hvl := hv.length
     have hcl := hc.length
     have hsz : (ρ x).cells.size = n := by rw [← Array.length_toList, ← hvl]; exact hh.1
     obtain ⟨us, g1, g2, g3, g4⟩ := Cy hev l (cs.take o ++ ((ρ x).cells.toList ++ cs.drop (o + n))) _ r ((R1s.take o hc).append (hv.append (R1s.drop _ hc))) (fun v hv' => by
      rw [List.mem_append, List.mem_append] at hv'
      rcases hv' with q | q | q
      ·exact h1 v (List.mem_of_mem_take q)
      ·exact hv1 v q
      ·exact h1 v (List.mem_of_mem_drop q)) hf
     refine ⟨us, ?_, g2, g3, ?_⟩
     ·simp only [List.map_cons, Instr.fill, hp]
      rw [if_neg Jg]
      have hfold := FN (ρ x).cells.toList 0 o cs Jg
      simp only [Nat.add_zero, Array.length_toList, hsz] at hfold
      have e : (ρ x).cells.zipIdx.foldl (fun cs (p : Value × Nat) => cs.setIfInBounds (o + p.2) p.1) cs.toArray = (cs.take o ++ ((ρ x).cells.toList ++ cs.drop (o + n))).toArray := by
       rw [← hfold, ← Array.foldl_toList]
       congr 1
       simp [Array.toList_zipIdx]
      rw [← g1, ← e]
     ·rw [g4]; simp [hsz]; omega
    ·cases hf
   ·cases hf
theorem w9 {place : Nat → Option (Nat × Nat)} {Q : Nat → Prop} : ∀ (l : List (Nat × Option (List A1))) (xs r : List A1), (∀ j ∈ xs.flatMap A1.ids, Q j) → (∀ p ∈ l, ∀ ys, p.2 = some ys → ∀ j ∈ ys.flatMap A1.ids, Q j) → qV place xs l = some r → ∀ j ∈ r.flatMap A1.ids, Q j
 | [], xs, r, h1, _, hf => by simp [qV] at hf; subst hf; exact h1
 | (i, v) :: l, xs, r, h1, h2, hf => by
   simp only [qV] at hf
   split at hf
   ·rename_i o n ys hp
    split at hf
    ·refine w9 l _ r (fun j hj => ?_) (fun p hp => h2 p (List.mem_cons_of_mem _ hp)) hf
     rw [List.flatMap_append, List.flatMap_append, List.mem_append, List.mem_append] at hj
     rcases hj with q | q | q
     ·obtain ⟨a, ha, hb⟩ := List.mem_flatMap.1 q
      exact h1 j (List.mem_flatMap.2 ⟨a, List.mem_of_mem_take ha, hb⟩)
     ·exact h2 _ (List.mem_cons_self ..) ys rfl j q
     ·obtain ⟨a, ha, hb⟩ := List.mem_flatMap.1 q
      exact h1 j (List.mem_flatMap.2 ⟨a, List.mem_of_mem_drop ha, hb⟩)
    ·cases hf
   ·cases hf
theorem Da {a : A} {ys : List A1} (h : vO a = some ys) : ∀ j ∈ ys.flatMap A1.ids, j ∈ a.ids := by
 unfold vO at h
 split at h
 ·rename_i l hl
  exact fun j hj => mR hl j (mF h j hj)
 ·cases h
theorem AP : ∀ {zs : List Value} {z1 : List A1}, oU (zs.map ofConst) = some z1 → ∀ j ∈ z1.flatMap A1.ids, False := by
 intro zs z1 h j hj
 have := mF h j hj
 obtain ⟨a, ha, hb⟩ := List.mem_flatMap.1 this
 obtain ⟨v, -, rfl⟩ := List.mem_map.1 ha
 rw [gX] at hb
 cases hb
theorem Ih (hT : T.Ok P) {s : Nat → A} {a : Act} {id : Nat} {r : A} {ob : Option O} {o : Oper} (hm : MR w0 I0 B I mem w) (hs : ∀ t, RV B w I (s t) (a.tmps.getD t undef)) (hl : ∀ t, ∀ j ∈ (s t).ids, (mem j).isSome = true)
 (hid : ob.isSome = true → mem id = none) (hq : qv2 T s mem id o.op = some (r, ob)) :
 ∃ v w' B' I', (execOp a.eval o).run P w = .ok (.value v) w' ∧ MR w0 I0 B' I' (mem.put id ob) w' ∧ Below w.heap.size w w' ∧ (∀ b p, I b p → I' b p) ∧ (∀ j, (mem j).isSome = true → B' j = B j) ∧ RV B' w' I' r v ∧
   ∀ j ∈ r.ids, (mem.put id ob j).isSome = true := by
 have hev : ∀ x, RV B w I (ev s x) (a.eval x) := iK hs
 have hel : ∀ x, ∀ j ∈ (ev s x).ids, (mem j).isSome = true := tq hl
 have same : ∀ {v : Value} {r : A}, (execOp a.eval o).run P w = .ok (.value v) w → RV B w I r v → (∀ j ∈ r.ids, (mem j).isSome = true) → 
  ∃ v w' B' I', (execOp a.eval o).run P w = .ok (.value v) w' ∧ MR w0 I0 B' I' mem w' ∧ Below w.heap.size w w' ∧ (∀ b p, I b p → I' b p) ∧ (∀ j, (mem j).isSome = true → B' j = B j) ∧ RV B' w' I' r v ∧ ∀ j ∈ r.ids, (mem j).isSome = true :=
  fun h1 h2 h3 => ⟨_, w, B, I, h1, hm, Below.refl _ _, fun _ _ h => h, fun _ _ => rfl, h2, h3⟩
 have new : ∀ {z : O} {v : Value} {x : Obj} {r : A}, mem id = none → (execOp a.eval o).run P w = .ok (.value v) (w.alloc x) → RO (upd B id v) (w.alloc x) I id z → (∀ k, foot (upd B id v) id z k → k = w.heap.size) → (∀ j ∈ z.ids, (mem j).isSome = true) → RV (upd B id v) (w.alloc x) I r v → r.ids = [id] →
  ∃ v w' B' I', (execOp a.eval o).run P w = .ok (.value v) w' ∧ MR w0 I0 B' I' (upd mem id (some z)) w' ∧ Below w.heap.size w w' ∧ (∀ b p, I b p → I' b p) ∧ (∀ j, (mem j).isSome = true → B' j = B j) ∧ RV B' w' I' r v ∧ ∀ j ∈ r.ids, (upd mem id (some z) j).isSome = true :=
  fun hid h1 h2 h3 h4 h5 h6 => ⟨_, _, _, I, h1, hm.alloc hid h2 h3 h4, (Below.refl _ _).alloc (Nat.le_refl _) _, fun _ _ h => h, fun j hj => upd_ne _ _ (fun e => by subst e; simp [hid] at hj), h5,
   fun j hj => by rw [h6] at hj; simp at hj; subst hj; simp [upd_same]⟩
 cases hop : o.op with
 | buildSlice ty len parts =>
   simp only [hop, qv2] at hq
   split at hq
   ·split at hq
    ·rename_i e n he
     split at hq
     ·rename_i zs hz
      split at hq
      ·rename_i hh
       split at hq
       ·rename_i xs hf
        cases hq
        obtain ⟨us, hrun, h3, h4, hn0⟩ := OE hT (a := a) hm hev he hz hh hf
        have hb' : Below w.heap.size w (w.alloc (.cells us.toArray e)) := (Below.refl _ _).alloc (Nat.le_refl _) _
        have hE := hm.ext hb' (fun _ _ k => k)
        have hlen : xs.length = len * n := by rw [← h3.length, h4]
        have hml : len ≤ maxLen := by unfold maxLen; have : len * 1 ≤ len * n := Nat.mul_le_mul_left _ hn0; omega
        have hfl : flat (chunks n len xs) = xs := by
         have key : ∀ (k : Nat) (ys : List C), ys.length = k * n → flat (chunks n k ys) = ys := by
          intro k
          induction k with
          | zero => intro ys hy; rw [Nat.zero_mul] at hy; rw [List.length_eq_zero_iff.1 hy]; rfl
          | succ k ih =>
            intro ys hy
            rw [Nat.add_mul, Nat.one_mul] at hy
            have := ih (ys.drop n) MG
            simp only [flat, chunks, List.flatten_cons] at this ⊢
            rw [this, List.take_append_drop]
         exact key len xs hlen
        have hcl : ∀ x ∈ chunks n len xs, x.length = n := by
         have key : ∀ (k : Nat) (ys : List C), ys.length = k * n → ∀ x ∈ chunks n k ys, x.length = n := by
          intro k
          induction k with
          | zero => intro ys _ x hx; simp [chunks] at hx
          | succ k ih =>
            intro ys hy x hx
            rw [Nat.add_mul, Nat.one_mul] at hy
            rw [chunks, List.mem_cons] at hx
            rcases hx with rfl | hx
            ·rw [List.length_take]; omega
            ·exact ih (ys.drop n) MG x hx
         exact key len xs hlen
        have hcn : (chunks n len xs).length = len := by simp [rC]
        refine new (hid rfl) (x := .cells us.toArray e) (v := .slice (some ⟨w.heap.size, 0, none⟩) len len) ?_ ⟨us, ?_, ?_, hcl, fun b hb o ho => ?_⟩ (fun k hk => ?_) (fun j hj => by simp [O.ids] at hj) ⟨(upd_same ..).symm, _, _, _, rfl⟩ rfl
        ·simp only [execOp, hop]
         rw [Sem.run_bind, hrun]; rfl
        ·rw [upd_same, hcn]
         exact ⟨h4, .inr ⟨w.heap.size, 0, len, _, rfl, heap_alloc_new _ _, Nat.le_refl _, hml, by simp [h4], by show List.take _ us = _; exact List.take_of_length_le (by rw [h4]; exact Nat.le_refl _)⟩⟩
        ·rw [hfl]; exact h3.mono hE
        ·rw [upd_same] at hb; simp [Value.ownBlock] at hb; subst hb
         have := hm.there _ _ ho; omega
        ·have hk' : (upd B id (Value.slice (some ⟨w.heap.size, 0, none⟩) len len) id).ownBlock = some k := hk
         rw [upd_same] at hk'; simp [Value.ownBlock] at hk'; exact hk'.symm
       ·cases hq
      ·cases hq
     ·cases hq
    ·cases hq
   ·cases hq
 | build ty parts =>
   simp only [hop, qv2] at hq
   split at hq
   ·rename_i l vs hl0 hvs
    split at hq
    ·rename_i z1 hz
     split at hq
     ·rename_i xs hf
      cases hq
      obtain ⟨fs, hu, hfs⟩ := hT.fields ty l hl0
      obtain ⟨i, z, hi, hzz, hc, h1⟩ := hT.zero ty vs hvs
      obtain ⟨hr1, -⟩ := oC (B := B) (w := w) (I := I) hz (iq h1)
      obtain ⟨us, h2, h3, h4, -⟩ := Cy hev parts.toList vs z1 xs hr1 h1 hf
      refine same (v := .agg us.toArray) ?_ ⟨_, rfl, h3, h4⟩ (fun j hj => ?_)
      ·have hmap : ∀ (l : List (Nat × Nat)) (fl : List Field), fl.map (fun f => (P.info? f.type).map fun i => (f.offset, i.size)) = l.map some → (fl.mapM (m := Sem) fun f => do pure (f.offset, ← sizeOf f.type)).run P w = .ok l w := by
        intro l fl
        induction fl generalizing l with
        | nil => intro h; cases l with | nil => rfl | cons _ _ => cases h
        | cons f fl ih =>
          intro h
          cases l with
          | nil => cases h
          | cons p l =>
            simp only [List.map_cons, List.cons.injEq] at h
            obtain ⟨h5, h6⟩ := h
            cases hi : P.info? f.type with
            | none => rw [hi] at h5; cases h5
            | some i =>
              rw [hi] at h5
              cases h5
              have hsz : (do pure (f.offset, ← sizeOf f.type) : Sem (Nat × Nat)).run P w = .ok (f.offset, i.size) w := by simp [sizeOf, typeInfo, hi]
              rw [List.mapM_cons, Sem.run_bind, hsz, Result.andThen_ok, Sem.run_bind, ih l h6, Result.andThen_ok]
              rfl
       have hm2 : (fs.mapM (m := Sem) fun f => do pure (f.offset, ← sizeOf f.type)).run P w = .ok l.toArray w := by
        have := hmap l fs.toList hfs
        rw [← Array.toArray_toList (xs := fs), List.mapM_toArray, map_eq_pure_bind, Sem.run_bind, this, Result.andThen_ok]
        rfl
       have hzr : (zeroValue ty).run P w = .ok z w := by simp [zeroValue, typeInfo, hi, hzz]
       have hrun : (Instr.build ty (parts.map fun p => (p.1, a.eval p.2))).run P w = .ok (.agg us.toArray) w := by
        unfold Instr.build
        rw [Sem.run_bind, hzr, Result.andThen_ok]
        dsimp only
        rw [Sem.run_bind, run_underlying hu, Result.andThen_ok]
        dsimp only
        rw [Sem.run_bind, hm2, Result.andThen_ok, hc]
        have : Instr.fill (fun x => l.toArray[x]?) vs.toArray (parts.map fun p => (p.1, a.eval p.2)).toList = some us.toArray := by rw [← h2]; simp
        rw [this]
        rfl
       simp only [execOp, hop]
       rw [Sem.run_bind, hrun]
       rfl
      ·refine w9 (Q := fun j => (mem j).isSome = true) _ z1 xs (fun j hj => (AP hz j hj).elim) (fun p hp ys hy j hj => ?_) hf j hj
       obtain ⟨q, -, rfl⟩ := List.mem_map.1 hp
       exact hel q.2 j (Da hy j hj)
     ·cases hq
    ·cases hq
   ·cases hq
 | load ty x =>
   simp only [hop, qv2] at hq
   have hx := hev x
   split at hq
   ·rename_i j e i f ex
    rw [ex] at hx
    obtain ⟨b, off, n, cap, hB, hv⟩ := hx
    split at hq
    ·rename_i ty' e' xs hj
     split at hq
     ·rename_i hee
      subst hee
      split at hq
      ·rename_i cs hcs
       split at hq
       ·rename_i r' e3
        cases hq
        obtain ⟨vs, hrow, hvs, hlx, -⟩ := hm.objs j _ hj
        have hcl := hlx cs (List.mem_of_getElem? hcs)
        have hfl : flat xs = flat xs := rfl
        have key : RCs w I ((vs.drop (i * e')).take e') cs := by
         have hfl := lC hlx
         have hle : i * e' + e' ≤ xs.length * e' := by
          have := (List.getElem?_eq_some_iff.1 hcs).1
          have := Nat.mul_le_mul_right e' (show i + 1 ≤ xs.length from this)
          rw [Nat.add_mul] at this; omega
         have hvl := hvs.length
         refine RCs.of (by simp [hcl]; omega) fun q v x hq hx => ?_
         rw [List.getElem?_take] at hq
         split at hq
         ·rename_i hqe
          rw [List.getElem?_drop] at hq
          obtain ⟨v', hv1, hv2⟩ := hvs.at (i * e' + q) x (by rw [l9 hlx i q cs hcs hqe]; exact hx)
          rw [hq] at hv1; cases hv1; exact hv2
         ·cases hq
        have hcell : ∀ (q : Nat) v, (((vs.drop (i * e')).take e').drop f)[q]? = some v → w.cell? ⟨b, off + i * e' + f + q, none⟩ = some v := fun q v hq => by
         rw [List.getElem?_drop, List.getElem?_take] at hq
         split at hq
         ·rw [List.getElem?_drop] at hq
          have := hrow.cell (hB.trans (by
           obtain ⟨ad, cp, e5, -⟩ := hrow.shape
           rw [hB] at e5; cases e5; rfl)) hq
          rw [← this]; congr 2; omega
         ·cases hq
        have hvd := key.drop f
        unfold ldR at e3
        split at e3
        ·rename_i n' hty
         split at e3
         ·rename_i hn'
          cases e3
          have hlen := hvd.length
          refine same (v := .agg ((((vs.drop (i * e')).take e').drop f).take n').toArray) ?_ ⟨_, rfl, hvd.take n'⟩ (fun j hj => by simp [A.ids] at hj)
          simp only [execOp, hop, hv, Instr.loadAt, Instr.sureAddr, Sem.run_bind, Sem.run_pure, Result.andThen_ok]
          rw [jC hT hty (b := b) (off := off + i * e' + f) (cs := (((vs.drop (i * e')).take e').drop f).take n') x9 (fun k v hk => ?_)]
          ·rfl
          ·rw [List.getElem?_take] at hk
           split at hk
           ·exact hcell k v hk
           ·cases hk
         ·cases e3
        ·rename_i n' hty
         split at e3
         ·rename_i y ys hys
          cases e3
          rw [hys] at hvd
          cases hus : ((vs.drop (i * e')).take e').drop f with
          | nil => rw [hus] at hvd; exact hvd.elim
          | cons u us =>
            rw [hus] at hvd
            have hc0 : w.cell? ⟨b, off + i * e' + f, none⟩ = some u := by have := hcell 0 u (by rw [hus]; rfl); simpa using this
            refine same (v := u) ?_ hvd.1 (fun j hj => by simp [A.ids] at hj)
            simp only [execOp, hop, hv, Instr.loadAt, Instr.sureAddr, Sem.run_bind, Sem.run_pure, Result.andThen_ok]
            rw [lI hT hty hc0]
            rfl
         ·cases e3
        ·cases e3
       ·cases hq
      ·cases hq
     ·cases hq
    ·rename_i ty' xs hj
     split at hq
     ·rename_i hee
      obtain ⟨rfl, rfl⟩ := hee
      split at hq
      ·rename_i n' y hty hy
       cases hq
       obtain ⟨vs, hrow, hvs, h1, -⟩ := hm.objs j _ hj
       obtain ⟨u, hu1, hu2⟩ := hvs.at i y hy
       have hc0 : w.cell? ⟨b, off + i * 1 + 0, none⟩ = some u := by
        have := hrow.cell (hB.trans (by
         obtain ⟨ad, cp, e5, -⟩ := hrow.shape
         rw [hB] at e5; cases e5; rfl)) hu1
        simpa using this
       refine same (v := u) ?_ (EY.2 hu2) (NI hm hj hy)
       simp only [execOp, hop, hv, Instr.loadAt, Instr.sureAddr, Sem.run_bind, Sem.run_pure, Result.andThen_ok]
       rw [lI hT hty hc0]
       rfl
      ·cases hq
     ·cases hq
    ·cases hq
   ·cases hq
 | fieldAddr ty x f =>
   simp only [hop, qv2] at hq
   have hx := hev x
   split at hq
   ·rename_i o' n g j e i g' ho ex
    cases hq
    rw [ex] at hx
    obtain ⟨b, off, n', cap, hB, hv⟩ := hx
    refine same (v := .pointer (some ⟨b, off + i * e + g' + o', none⟩)) ?_ ⟨b, off, n', cap, hB, by rw [Nat.add_assoc (off + i * e)]⟩ (fun i' hi => hel x i' NG)
    simp only [execOp, hop, hv, Sem.run_bind]
    rw [nX hT ho]
    rfl
   ·cases hq
 | field ty x f =>
   simp only [hop, qv2] at hq
   have hx := hev x
   split at hq
   ·rename_i o' n xs ho ex
    cases hq
    rw [ex] at hx
    obtain ⟨vs, h2, hv, h1⟩ := hx
    refine same (v := .agg ((vs.drop o').take n).toArray) ?_ ⟨_, rfl, (hv.drop o').take n, fun u hu => h1 u (List.mem_of_mem_drop (List.mem_of_mem_take hu))⟩ (fun i hi => ?_)
    ·simp only [execOp, hop, h2, Sem.run_bind]
     rw [CP hT ho]
     rfl
    ·obtain ⟨y, hy1, hy2⟩ := List.mem_flatMap.1 hi
     exact hel x i Sb
   ·rename_i o' n xs ho ex
    rw [ex] at hx
    obtain ⟨vs, h2, hv, h1⟩ := hx
    split at hq
    ·rename_i y hy
     cases hq
     obtain ⟨v, hv1, hv2⟩ := hv.at o' y hy
     refine same (v := v) ?_ (EY.2 hv2) (fun i hi => hel x i SH)
     simp only [execOp, hop, h2, Sem.run_bind]
     rw [uR hT ho hv1]
     rfl
    ·cases hq
   ·cases hq
 | indexAddr ty x i =>
   simp only [hop, qv2] at hq
   have hx := hev x
   have hi := hev i
   split at hq
   ·rename_i et n j k kn he ex ei
    rw [ex] at hx
    rw [ei] at hi
    have hkv : a.eval i = .int k kn := (RC.toInt hi).1
    split at hq
    ·rename_i ty' e xs hj
     split at hq
     ·rename_i hc
      obtain ⟨rfl, h0, hlt⟩ := hc
      cases hq
      obtain ⟨vs, hrow, -⟩ := hm.objs j _ hj
      obtain ⟨b, off, cap, hB, hnc, -⟩ := hrow.addr (by omega)
      have hxv : a.eval x = .slice (some ⟨b, off, none⟩) xs.length cap := hx.1.trans hB
      refine same (v := .pointer (some ⟨b, off + kn.toNat * e, none⟩)) ?_ ⟨b, off, _, cap, hB, rfl⟩ (fun i' hi' => hel x i' Mv)
      simp only [execOp, hop, hxv, hkv, Sem.run_bind]
      rw [oq hT he h0 (by omega)]
      rfl
     ·cases hq
    ·rename_i ty' xs hj
     split at hq
     ·rename_i hc
      obtain ⟨rfl, h0, hlt⟩ := hc
      cases hq
      obtain ⟨vs, hrow, -⟩ := hm.objs j _ hj
      obtain ⟨b, off, cap, hB, hnc, -⟩ := hrow.addr (by omega)
      have hxv : a.eval x = .slice (some ⟨b, off, none⟩) xs.length cap := hx.1.trans hB
      refine same (v := .pointer (some ⟨b, off + kn.toNat * 1, none⟩)) ?_ ⟨b, off, _, cap, hB, rfl⟩ (fun i' hi' => hel x i' Mv)
      simp only [execOp, hop, hxv, hkv, Sem.run_bind]
      rw [oq hT he h0 (by omega)]
      rfl
     ·cases hq
    ·cases hq
   ·cases hq
 | nilCheck x =>
   simp only [hop, qv2] at hq
   have hx := hev x
   split at hq
   ·rename_i j e i f ex
    cases hq
    rw [ex] at hx
    obtain ⟨b, off, n, cap, hB, hv⟩ := hx
    exact same (v := a.eval x) Ls ⟨b, off, n, cap, hB, hv⟩ (fun i' hi => hel x i' NG)
   ·rename_i j ex
    cases hq
    rw [ex] at hx
    obtain ⟨h1, q, hv⟩ := hx
    exact same (v := a.eval x) Ls ⟨h1, q, hv⟩ (fun i' hi => hel x i' NG)
   ·rename_i f caps ex
    cases hq
    rw [ex] at hx
    obtain ⟨ps, hv, h1⟩ := hx
    exact same (v := a.eval x) Ls ⟨ps, hv, h1⟩ (fun i' hi => by simp [A.ids] at hi)
   ·cases hq
 | slice ty x lo hi mx =>
   cases mx with
   | some _ => simp [hop, qv2] at hq
   | none =>
     simp only [hop, qv2] at hq
     have hx := hev x
     split at hq
     ·rename_i et n j he ex
      rw [ex] at hx
      split at hq
      ·rename_i ty' e xs hj
       split at hq
       ·rename_i hee
        subst hee
        split at hq
        ·rename_i l h hlo hhi
         split at hq
         ·rename_i hlh
          cases hq
          obtain ⟨vs, hrow, -⟩ := hm.objs j _ hj
          obtain ⟨ad, cap, hB, hnc⟩ := hrow.shape
          obtain ⟨hu, -, i', hi', hn'⟩ := hT.elem _ _ _ he
          have hxv : a.eval x = .slice ad xs.length cap := hx.1.trans hB
          refine same (v := .slice (if cap = l then ad else ad.map (·.add (l * e))) (h - l) (cap - l)) ?_ ⟨ad, _, cap, hB, hlh.1, by omega, rfl⟩ (fun i' hi' => hel x i' Mv)
          have bl := rA (P := P) (w := w) (y := h) (code := .sliceB) hev hlo hlh.1
          have bh : ∀ code, (match hi.map a.eval with | some v => Instr.sliceBound v cap code | none => pure xs.length : Sem Nat).run P w = .ok h w := fun code => rA hev hhi (by omega)
          simp only [execOp, hop, hxv, Instr.sliceAt, Sem.run_bind, run_underlying hu, Result.andThen_ok, Instr.slice, Instr.sliceBounds, Sem.run_pure, Option.isSome_none, Option.map_none]
          have bh' := bh .sliceAcap
          have hsz : (sizeOf et).run P w = .ok e w := by simp [sizeOf, typeInfo, hi', hn']
          cases hi <;> cases lo <;> simp only [Option.map_none, Option.map_some, Sem.run_pure, Result.ok.injEq, and_true] at bl bh' ⊢
          all_goals (try subst bl)
          all_goals (try subst bh')
          all_goals simp [*]
         ·cases hq
        ·cases hq
       ·cases hq
      ·cases hq
     ·cases hq
 | makeSlice t l c =>
   simp only [hop, qv2] at hq
   split at hq
   ·rename_i e n k k' he el ec
    have hl' := hev l; rw [el] at hl'
    have hc' := hev c; rw [ec] at hc'
    have hlv := (RC.toInt hl').1
    have hcv := (RC.toInt hc').1
    split at hq
    ·rename_i b vs hb hz
     split at hq
     ·rename_i hc
      obtain ⟨rfl, h0, hvl, hby, h63⟩ := hc
      obtain ⟨hu, hn0, i, hi, hin⟩ := hT.elem _ _ _ he
      obtain ⟨i2, hi2, hib⟩ := hT.bytes _ _ hb
      obtain ⟨i3, z, hi3, hz3, hzc, hz1⟩ := hT.zero _ _ hz
      have e1 : i2 = i := Option.some.inj (hi2.symm.trans hi)
      have e2 : i3 = i := Option.some.inj (hi3.symm.trans hi)
      subst e1 e2
      obtain ⟨m, rfl⟩ : ∃ m : Nat, k = m := ⟨k.toNat, by omega⟩
      have hml : m ≤ maxLen := by unfold maxLen; omega
      have hbm : (i3.bytes : Int) * (m : Int) ≤ 281474976710656 := by
       rw [hib]
       have h : ((b * m : Nat) : Int) ≤ 281474976710656 := by rw [Nat.mul_comm]; simp only [Int.toNat_natCast] at hby; omega
       rwa [Int.natCast_mul] at h
      have hrun := run_make (P := P) w t e i3 z hu hi3 hz3 .i64 .i64 m m (by omega) (Int.le_refl _) hbm h63
      simp only [Int.toNat_natCast] at hrun hby hq
      have hcells : (madeCells z.cells (m * i3.size)) = ((List.replicate m vs).flatten).toArray := by
       rw [← Array.toList_inj, hzc, hin, GK hvl hn0]
      rw [hcells] at hrun
      have hex : (execOp a.eval o).run P w = .ok (.value (.slice (some ⟨w.heap.size, 0, none⟩) m m)) (w.alloc (.cells ((List.replicate m vs).flatten).toArray e)) := by
       simp only [execOp, hop, hlv, hcv]
       rw [Sem.run_bind, hrun]; rfl
      have hb' : Below w.heap.size w (w.alloc (.cells ((List.replicate m vs).flatten).toArray e)) := (Below.refl _ _).alloc (Nat.le_refl _) _
      have hE := hm.ext hb' (fun _ _ k => k)
      have hlen : ((List.replicate m vs).flatten).length = m * n := fI hvl m
      have hrow : ∀ {us : List Value}, us = (List.replicate m vs).flatten → rowAt (w.alloc (.cells ((List.replicate m vs).flatten).toArray e)) e n (.slice (some ⟨w.heap.size, 0, none⟩) m m) m us := fun {us} hus => by
       subst hus
       exact ⟨hlen, .inr ⟨w.heap.size, 0, m, _, rfl, heap_alloc_new _ _, Nat.le_refl _, hml, by simp [hlen], by show List.take _ (List.replicate m vs).flatten = _; exact List.take_of_length_le (by rw [hlen]; exact Nat.le_refl _)⟩⟩
      split at hq
      ·rename_i hnr
       cases hq
       have hvs0 : vs = [.slice none 0 0] := by
        unfold vv at hnr
        split at hnr
        ·rfl
        ·cases hnr
       subst hvs0
       have hn1 : n = 1 := by simpa using hvl.symm
       subst hn1
       have hfl : (List.replicate m [Value.slice none 0 0]).flatten = List.replicate m (.slice none 0 0) := by
        clear hrun hex hb' hE hlen hrow hcells
        induction m with
        | zero => rfl
        | succ m ih => simp [List.replicate_succ]
       refine new (hid rfl) hex ⟨List.replicate m (.slice none 0 0), ?_, R1s.rep (show R1 _ _ _ .nil _ from rfl) m, fun u hu => ?_, fun b hb o ho => ?_⟩ (fun k hk => ?_) (fun j hj => ?_) ⟨(upd_same ..).symm, _, _, _, rfl⟩ rfl
       ·rw [upd_same, List.length_replicate]; exact hrow hfl.symm
       ·rw [List.eq_of_mem_replicate hu]; rfl
       ·rw [upd_same] at hb; simp [Value.ownBlock] at hb; subst hb
        have := hm.there _ _ ho; omega
       ·have hk' : (upd B id (Value.slice (some ⟨w.heap.size, 0, none⟩) m m) id).ownBlock = some k := hk
        rw [upd_same] at hk'; simp [Value.ownBlock] at hk'; exact hk'.symm
       ·obtain ⟨y, hy1, hy2⟩ := List.mem_flatMap.1 hj
        rw [List.eq_of_mem_replicate hy1] at hy2
        simp [A1.ids] at hy2
      ·rename_i hnr
       split at hq
       ·rename_i zs hzs
        cases hq
        have hrz := uW hm hz1 hzs
        have hzl : zs.length = n := by rw [← hrz.length, hvl]
        refine new (hid rfl) hex ⟨(List.replicate m vs).flatten, ?_, ?_, fun x hx => by rw [List.eq_of_mem_replicate hx]; exact hzl, fun b hb o ho => ?_⟩ (fun k hk => ?_) (fun j hj => by simp [O.ids] at hj) ⟨(upd_same ..).symm, _, _, _, rfl⟩ rfl
        ·rw [upd_same, List.length_replicate]; exact hrow rfl
        ·exact (hrz.rep m).mono hE
        ·rw [upd_same] at hb; simp [Value.ownBlock] at hb; subst hb
         have := hm.there _ _ ho; omega
        ·have hk' : (upd B id (Value.slice (some ⟨w.heap.size, 0, none⟩) m m) id).ownBlock = some k := hk
         rw [upd_same] at hk'; simp [Value.ownBlock] at hk'; exact hk'.symm
       ·split at hq
        ·rename_i v hnz
         split at hq
         ·rename_i z' hz'
          cases hq
          have hv1 := hz1 v (by simp)
          have hn1 : n = 1 := by simpa using hvl.symm
          subst hn1
          have hr1 : R1 B w I z' v := lg hz' (iq (B := B) (w := w) (I := I) hz1).1.1
          have hfl : (List.replicate m [v]).flatten = List.replicate m v := by
           clear hrun hex hb' hE hlen hrow hcells
           induction m with
           | zero => rfl
           | succ m ih => simp [List.replicate_succ]
          have hz0 : ∀ i ∈ z'.ids, i ∈ (ofConst v).ids := iH hz'
          refine new (hid rfl) hex ⟨List.replicate m v, ?_, ?_, fun u hu => ?_, fun b hb o ho => ?_⟩ (fun k hk => ?_) (fun j hj => ?_) ⟨(upd_same ..).symm, _, _, _, rfl⟩ rfl
          ·rw [upd_same, List.length_replicate]; exact hrow hfl.symm
          ·exact R1s.rep (hr1.mono (B' := upd B id _) hE (fun i hi => by have := hz0 i hi; rw [gX] at this; simp at this)) m
          ·rw [List.eq_of_mem_replicate hu]; exact hv1
          ·rw [upd_same] at hb; simp [Value.ownBlock] at hb; subst hb
           have := hm.there _ _ ho; omega
          ·have hk' : (upd B id (Value.slice (some ⟨w.heap.size, 0, none⟩) m m) id).ownBlock = some k := hk
           rw [upd_same] at hk'; simp [Value.ownBlock] at hk'; exact hk'.symm
          ·obtain ⟨y, hy1, hy2⟩ := List.mem_flatMap.1 hj
           rw [List.eq_of_mem_replicate hy1] at hy2
           have := hz0 j hy2; rw [gX] at this; simp at this
         ·cases hq
        ·cases hq
     ·cases hq
    ·cases hq
   ·cases hq
 | makeMap t rs =>
   cases rs with
   | some _ => simp [hop, qv2] at hq
   | none =>
     simp only [hop, qv2] at hq
     split at hq
     ·cases hq
      refine new (v := .map (some w.heap.size)) (x := .map #[] 0) (hid rfl) ?_ ⟨w.heap.size, #[], 0, upd_same .., heap_alloc_new _ _, trivial, fun p hp => ?_⟩ (fun k hk => ?_) (fun j hj => by simp [O.ids] at hj) ⟨(upd_same ..).symm, _, rfl⟩ rfl
      ·simp only [execOp, hop, Option.map_none]
       rfl
      ·have := hm.there _ _ hp; omega
      ·have hk' : upd B id (Value.map (some w.heap.size)) id = .map (some k) := hk
       rw [upd_same] at hk'; cases hk'; rfl
     ·cases hq
 | lookup t x k ok =>
   simp only [hop, qv2] at hq
   have hx := hev x
   have hk := hev k
   split at hq
   ·rename_i kt e key ht hkey
    have hmap := hT.map _ _ _ ht
    obtain ⟨hkr, -⟩ := FJ hkey hk
    split at hq
    ·rename_i hkt
     have hfine := Bc (P := P) hT hkt hkr
     split at hq
     ·rename_i j ex
      rw [ex] at hx
      split at hq
      ·rename_i ents hj
       obtain ⟨r', es, clock, hB, hheap, hes, -⟩ := hm.objs j _ hj
       have hxv : a.eval x = .map (some r') := hx.1.trans hB
       split at hq
       ·rename_i q v hf
        cases hq
        rcases oK hT hkt hkr hes hf with ⟨e1, -⟩ | ⟨q', v', e', k', e1, e2, e3, e4, e5, e6⟩
        ·cases e1
        ·cases e1
         refine same (v := if ok = true then .tuple #[e'.val, .bool true] else e'.val) ?_ (tQ e6) (fun i hi => hm.live j _ hj i (List.mem_flatMap.2 ⟨(k', v), List.mem_of_getElem? e4, List.mem_append_right _ (j3 i hi)⟩))
         simp [execOp, hop, hxv, Instr.lookup, run_underlying hmap, MapKept.run_getObj_map hheap, hfine.check, e2, Result.andThen]
       ·rename_i hf
        split at hq
        ·rename_i z hz
         cases hq
         obtain ⟨v, hv1, hv2, hv3⟩ := wW (B := B) (I := I) hT hm hz
         rcases oK hT hkt hkr hes hf with ⟨-, e2⟩ | ⟨q', v', e', k', e1, -⟩
         ·refine same (v := if ok = true then .tuple #[v, .bool false] else v) ?_ (tQ hv2) (fun i hi => by have := j3 i hi; rw [hv3] at this; simp at this)
          simp [execOp, hop, hxv, Instr.lookup, run_underlying hmap, MapKept.run_getObj_map hheap, hfine.check, e2, Result.andThen, hv1]
         ·cases e1
        ·cases hq
       ·cases hq
      ·rename_i L hj
       obtain ⟨r', es, clock, hB, hheap, hnm, -⟩ := hm.objs j _ hj
       have hxv : a.eval x = .map (some r') := hx.1.trans hB
       unfold Lp at hq
       split at hq
       ·rename_i s hz0
        cases hq
        obtain ⟨v, hv1, hv2, hv3⟩ := wW (B := B) (I := I) hT hm hz0
        have hes := J8 (B := B) (w := w) (I := I) hnm.each
        rcases SL hnm.each s with ⟨hf, hno⟩ | ⟨q, e, hf, hq', hk'⟩
        ·have hnl : s.data.toList ∉ L := fun h => by
          obtain ⟨e, he, hk'⟩ := (hnm.told L rfl s).2 h
          exact hno e he hk'
         rcases oK hT hkt hkr hes hf with ⟨-, e2⟩ | ⟨q', v', e', k', e1, -⟩
         ·refine same (v := v) ?_ ?_ (fun i hi => by simp [A.ids] at hi)
          ·simp [execOp, hop, hxv, Instr.lookup, run_underlying hmap, MapKept.run_getObj_map hheap, hfine.check, e2, Result.andThen, hv1]
          ·rw [if_neg (by simpa using hnl)]; exact hv2
         ·cases e1
        ·have hl : s.data.toList ∈ L := (hnm.told L rfl s).1 ⟨e, List.mem_of_getElem? hq', hk'⟩
         rcases oK hT hkt hkr hes hf with ⟨e1, -⟩ | ⟨q', v', e', k', e1, e2, e3, e4, e5, e6⟩
         ·cases e1
         ·cases e1
          refine same (v := e'.val) ?_ ?_ (fun i hi => by simp [A.ids] at hi)
          ·simp [execOp, hop, hxv, Instr.lookup, run_underlying hmap, MapKept.run_getObj_map hheap, hfine.check, e2, Result.andThen]
          ·rw [if_pos BO]; exact e6
       ·cases hq
      ·cases hq
     ·rename_i ex
      rw [ex] at hx
      have hxv : a.eval x = .map none := hx
      split at hq
      ·rename_i z hz
       cases hq
       obtain ⟨v, hv1, hv2, hv3⟩ := wW (B := B) (I := I) hT hm hz
       have e2 : (Instr.findKey kt (a.eval k) []).run P w = .ok none w := by
        rcases oK hT hkt hkr (ents := []) (es := []) trivial (r := none) rfl with ⟨-, e2⟩ | ⟨q', v', e', k', e1, -⟩
        ·exact e2
        ·cases e1
       refine same (v := if ok = true then .tuple #[v, .bool false] else v) ?_ (tQ hv2) (fun i hi => by have := j3 i hi; rw [hv3] at this; simp at this)
       simp [execOp, hop, hxv, Instr.lookup, run_underlying hmap, hfine.check, e2, Result.andThen, hv1]
      ·cases hq
     ·cases hq
    ·cases hq
   ·cases hq
 | binOp op t x y pos =>
   simp only [hop, qv2] at hq
   have hx := hev x
   have hy := hev y
   split at hq
   ·rename_i l xs ys hs ex ey
    rw [ex] at hx
    rw [ey] at hy
    obtain ⟨us, hu, hur⟩ := hx
    obtain ⟨vs, hv, hvr⟩ := hy
    obtain ⟨h1, h2, ⟨fs, hfs, hfl⟩, -⟩ := hT.seq _ _ hs
    split at hq
    ·rename_i hoff
     split at hq
     ·rename_i b hb
      split at hq
      ·rename_i r' hr'
       cases hq
       have hfo : P.fieldsOf t = fs := by simp [Program.fieldsOf, hfs]
       have heq : (Op.equal t (.agg us.toArray) (.agg vs.toArray)).run P w = .ok b w := by
        show (Op.equalIn (9999 + 1) t _ _).run P w = _
        rw [run_equalIn_struct w 9999 t _ _ (by rw [hfo]; exact hfs) h1, hfo]
        exact AB hT 9998 _ l 0 us vs xs ys b hfl hoff hur hvr hb
       have hg : (eqGuard op t x y (.agg us.toArray) (.agg vs.toArray)).run P w = .ok () w := by
        unfold eqGuard
        cases op <;> simp [h2]
       unfold EB at hr'
       split at hr' <;> cases hr'
       ·refine same (v := .bool b) ?_ .bool (fun i hi => by simp [A.ids] at hi)
        simp only [execOp, hop, hu, hv, Sem.run_bind, hg, Result.andThen_ok]
        simp [binOp, heq]
       ·refine same (v := .bool (!b)) ?_ .bool (fun i hi => by simp [A.ids] at hi)
        simp only [execOp, hop, hu, hv, Sem.run_bind, hg, Result.andThen_ok]
        simp [binOp, heq]
      ·cases hq
     ·cases hq
    ·cases hq
   ·cases hq
 | convert ta tb x =>
   simp only [hop, qv2] at hq
   have hx := hev x
   split at hq
   ·rename_i k k' k2 n h1 h2 ex
    cases hq
    rw [ex] at hx
    have hxv := (RC.toInt hx).1
    refine same (v := .int k' (k'.wrap n)) ?_ (.int (vG _ _)) (fun i hi => by simp [A.ids] at hi)
    have u1 := hT.int _ _ h1
    have u2 := hT.int _ _ h2
    simp [execOp, hop, hxv, convert, run_underlying u1, run_underlying u2, Conv.intToInt]
   ·cases hq
 | unOp op ty x =>
   cases op with
   | neg =>
     simp only [hop, qv2] at hq
     have hx := hev x
     split at hq
     ·rename_i k n ex
      cases hq
      rw [ex] at hx
      have hxv := (RC.toInt hx).1
      exact same (v := .int k (k.wrap (0 - n))) (by simp [execOp, hop, hxv, Op.unary, Op.intArith]) (.int (vG _ _)) (fun i hi => by simp [A.ids] at hi)
     ·cases hq
   | _ => simp [hop, qv2] at hq
 | extract x i =>
   simp only [hop, qv2] at hq
   have hx := hev x
   split at hq
   ·rename_i xs ex
    rw [ex] at hx
    obtain ⟨vs, hv, hvs⟩ := hx
    split at hq
    ·rename_i y hy
     cases hq
     obtain ⟨v, hv1, hv2⟩ := hvs.at i y hy
     refine same (v := v) ?_ (EY.2 hv2) (fun i' hi => hel x i' SH)
     simp [execOp, hop, hv, Instr.extract, hv1]
    ·cases hq
   ·cases hq
 | makeInterface t x =>
   simp only [hop, qv2] at hq
   split at hq
   ·rename_i hk
    split at hq
    ·rename_i r' hr
     cases hq
     refine same (v := .iface t (a.eval x)) ?_ ⟨_, rfl, Rh hm hr (hev x)⟩ (fun i hi => by simp [A.ids] at hi)
     simp only [Bool.or_eq_true] at hk
     rcases hk with hk | hk
     ·cases hk2 : T.int t with
      | none => rw [hk2] at hk; cases hk
      | some k => simp [execOp, hop, Instr.makeInterface, run_underlying (hT.int _ _ hk2)]
     ·cases hk2 : T.fields t with
      | none => rw [hk2] at hk; cases hk
      | some l =>
        obtain ⟨fs, hfs, -⟩ := hT.fields _ _ hk2
        simp [execOp, hop, Instr.makeInterface, run_underlying hfs]
    ·cases hq
   ·cases hq
 | call c =>
   simp only [hop, qv2] at hq
   obtain ⟨cal, args, tys⟩ := c
   split at hq
   ·rename_i x t hc hargs hty
    simp only at hc hargs hty
    subst hc
    have ea : args = #[x] := by rw [← Array.toArray_toList (xs := args), hargs]
    have et : tys = #[t] := by rw [← Array.toArray_toList (xs := tys), hty]
    subst ea et
    have hx := hev x
    split at hq
    ·rename_i j ex
     rw [ex] at hx
     split at hq
     ·rename_i q ty' e xs he hj
      cases hq
      obtain ⟨hu, -, i', hi', hn'⟩ := hT.elem _ _ _ he
      obtain ⟨vs, hrow, -⟩ := hm.objs j _ hj
      have hml : xs.length ≤ maxLen := by
       rcases hrow.2 with ⟨-, e1⟩ | ⟨g, o, c, cur, e1, hg, hnc, hm', hs, ht⟩
       ·rw [e1]; exact Nat.zero_le _
       ·exact Nat.le_trans hnc hm'
      obtain ⟨ad, cap, hB, hnc⟩ := hrow.shape
      have hxv : a.eval x = .slice ad xs.length cap := hx.1.trans hB
      refine same (v := .int .i64 xs.length) ?_ (.int ?_) (fun i hi => by simp [A.ids] at hi)
      ·simp [execOp, hop, resolve, invoke, builtin, Builtin.len_, hxv, run_underlying hu, goInt]
      ·simp [Lit.wf, IntKind.min, IntKind.max, IntKind.bits, IntKind.signed]
       unfold maxLen at hml
       omega
     ·rename_i q ty' xs he hj
      cases hq
      obtain ⟨hu, -, i', hi', hn'⟩ := hT.elem _ _ _ he
      obtain ⟨vs, hrow, -⟩ := hm.objs j _ hj
      have hml : xs.length ≤ maxLen := by
       rcases hrow.2 with ⟨-, e1⟩ | ⟨g, o, c, cur, e1, hg, hnc, hm', hs, ht⟩
       ·rw [e1]; exact Nat.zero_le _
       ·exact Nat.le_trans hnc hm'
      obtain ⟨ad, cap, hB, hnc⟩ := hrow.shape
      have hxv : a.eval x = .slice ad xs.length cap := hx.1.trans hB
      refine same (v := .int .i64 xs.length) ?_ (.int ?_) (fun i hi => by simp [A.ids] at hi)
      ·simp [execOp, hop, resolve, invoke, builtin, Builtin.len_, hxv, run_underlying hu, goInt]
      ·simp [Lit.wf, IntKind.min, IntKind.max, IntKind.bits, IntKind.signed]
       unfold maxLen at hml
       omega
     ·cases hq
    ·rename_i j ex
     rw [ex] at hx
     split at hq
     ·rename_i q ents ht hj
      split at hq
      ·rename_i hlen
       cases hq
       have hu := hT.map _ _ _ ht
       obtain ⟨r', es, clock, hB, hh, hes, -⟩ := hm.objs j _ hj
       have hxv : a.eval x = .map (some r') := hx.1.trans hB
       have hel : ∀ {l : List (A1 × A1)} {es : List MapEntry}, REs B w I l es → l.length = es.length := by
        intro l
        induction l with
        | nil => intro es h; cases es with | nil => rfl | cons _ _ => exact h.elim
        | cons p l ih => intro es h; cases es with | nil => exact h.elim | cons _ _ => simp [ih h.2]
       have hl := hel hes
       refine same (v := .int .i64 ents.length) ?_ (.int ?_) (fun i hi => by simp [A.ids] at hi)
       ·have : (getObj r').run P w = .ok (.map es clock) w := by show Sem.run P (Sem.getObj r' Sem.pure) w = _; simp [Sem.run, hh]
        simp [execOp, hop, resolve, invoke, builtin, Builtin.len_, hxv, run_underlying hu, goInt, this, hl]
       ·simp [Lit.wf, IntKind.min, IntKind.max, IntKind.bits, IntKind.signed]
        omega
      ·cases hq
     ·cases hq
    ·rename_i ex
     rw [ex] at hx
     split at hq
     ·rename_i q ht
      cases hq
      have hu := hT.map _ _ _ ht
      have hxv : a.eval x = .map none := hx
      refine same (v := .int .i64 0) ?_ (.int (by decide)) (fun i hi => by simp [A.ids] at hi)
      simp [execOp, hop, resolve, invoke, builtin, Builtin.len_, hxv, run_underlying hu, goInt]
     ·cases hq
    ·rename_i b ex
     rw [ex] at hx
     split at hq
     ·rename_i ht
      cases hq
      obtain ⟨hxv, hss⟩ := RC.toStr hx
      refine same (v := .int .i64 b.size) ?_ (.int ?_) (fun i hi => by simp [A.ids] at hi)
      ·simp [execOp, hop, resolve, invoke, builtin, Builtin.len_, hxv, run_underlying (hT.str _ ht), goInt]
      ·simp [Lit.wf, IntKind.min, IntKind.max, IntKind.bits, IntKind.signed]
       unfold kF at hss
       omega
     ·cases hq
    ·cases hq
   ·rename_i x y hc hargs
    simp only at hc hargs
    subst hc
    have ea : args = #[x, y] := by rw [← Array.toArray_toList (xs := args), hargs]
    subst ea
    have hx := hev x
    have hy := hev y
    split at hq
    ·rename_i k n k' m ex ey
     rw [ex] at hx
     rw [ey] at hy
     split at hq
     ·rename_i hk
      subst hk
      cases hq
      have hxv := RC.toInt hx
      have hyv := RC.toInt hy
      refine same (v := .int k (if m < n then m else n)) ?_ (.int (wI _ hyv.2 hxv.2)) (fun i hi => by simp [A.ids] at hi)
      simp [execOp, hop, resolve, invoke, builtin, Builtin.min_, Builtin.min2, hxv.1, hyv.1]
     ·cases hq
    ·cases hq
   ·rename_i x y hc hargs
    simp only at hc hargs
    subst hc
    have ea : args = #[x, y] := by rw [← Array.toArray_toList (xs := args), hargs]
    subst ea
    have hx := hev x
    have hy := hev y
    split at hq
    ·rename_i k n k' m ex ey
     rw [ex] at hx
     rw [ey] at hy
     split at hq
     ·rename_i hk
      subst hk
      cases hq
      have hxv := RC.toInt hx
      have hyv := RC.toInt hy
      refine same (v := .int k (if n < m then m else n)) ?_ (.int (wI _ hyv.2 hxv.2)) (fun i hi => by simp [A.ids] at hi)
      simp [execOp, hop, resolve, invoke, builtin, Builtin.max_, Builtin.max2, hxv.1, hyv.1]
     ·cases hq
    ·cases hq
   ·rename_i x y z hc hargs
    simp only at hc hargs
    subst hc
    have ea : args = #[x, y, z] := by rw [← Array.toArray_toList (xs := args), hargs]
    subst ea
    have hx := hev x
    have hy := hev y
    have hz := hev z
    split at hq
    ·rename_i k n k' m k'' l ex ey ez
     rw [ex] at hx
     rw [ey] at hy
     rw [ez] at hz
     split at hq
     ·rename_i hk
      obtain ⟨hk1, hk2⟩ := hk
      subst hk1 hk2
      cases hq
      have hxv := RC.toInt hx
      have hyv := RC.toInt hy
      have hzv := RC.toInt hz
      refine same (v := .int k (mn3 n m l)) ?_ (.int (wI _ hzv.2 (wI _ hyv.2 hxv.2))) (fun i hi => by simp [A.ids] at hi)
      simp [execOp, hop, resolve, invoke, builtin, Builtin.min_, Builtin.min2, hxv.1, hyv.1, hzv.1, mn3]
     ·cases hq
    ·cases hq
   ·rename_i x y z hc hargs
    simp only at hc hargs
    subst hc
    have ea : args = #[x, y, z] := by rw [← Array.toArray_toList (xs := args), hargs]
    subst ea
    have hx := hev x
    have hy := hev y
    have hz := hev z
    split at hq
    ·rename_i k n k' m k'' l ex ey ez
     rw [ex] at hx
     rw [ey] at hy
     rw [ez] at hz
     split at hq
     ·rename_i hk
      obtain ⟨hk1, hk2⟩ := hk
      subst hk1 hk2
      cases hq
      have hxv := RC.toInt hx
      have hyv := RC.toInt hy
      have hzv := RC.toInt hz
      refine same (v := .int k (mx3 n m l)) ?_ (.int (wI _ hzv.2 (wI _ hyv.2 hxv.2))) (fun i hi => by simp [A.ids] at hi)
      simp [execOp, hop, resolve, invoke, builtin, Builtin.max_, Builtin.max2, hxv.1, hyv.1, hzv.1, mx3]
     ·cases hq
    ·cases hq
   ·cases hq
 | _ => simp [hop, qv2] at hq
theorem QI (hT : T.Ok P) {s : Nat → A} {a : Act} {id : Nat} {r : A} {ob : Option O} {o : Oper} (hm : MR w0 I0 B I mem w) (hs : ∀ t, RV B w I (s t) (a.tmps.getD t undef)) (hl : ∀ t, ∀ j ∈ (s t).ids, (mem j).isSome = true)
 (hid : ob.isSome = true → mem id = none) (hq : qv T s mem id o.op = some (r, ob)) :
 ∃ v w' B' I', (execOp a.eval o).run P w = .ok (.value v) w' ∧ MR w0 I0 B' I' (mem.put id ob) w' ∧ Below w.heap.size w w' ∧ (∀ b p, I b p → I' b p) ∧ (∀ j, (mem j).isSome = true → B' j = B j) ∧ RV B' w' I' r v ∧
   ∀ j ∈ r.ids, (mem.put id ob j).isSome = true := by
 unfold qv at hq
 split at hq
 ·rename_i r' h1; cases hq; exact Pe hT hm hs hl hid h1
 ·exact Ih hT hm hs hl hid hq
end
end V
end Go.Proofs.YthhpcjoaogmhbaaGreatDoor
end
