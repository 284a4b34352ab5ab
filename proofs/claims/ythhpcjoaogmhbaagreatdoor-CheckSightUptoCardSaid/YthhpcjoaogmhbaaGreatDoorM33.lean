/- Joined by my own program, in build order: La7, LawPl7, La7s, LawSi7, LawSP7. -/
import Derived.Test.YthhpcjoaogmhbaaGreatDoorM32
import Derived.Test.YthhpcjoaogmhbaaGreatDoorCards
import Derived.Test.YthhpcjoaogmhbaaGreatDoorTie
import Derived.Test.YthhpcjoaogmhbaaGreatDoorM31
set_option linter.unusedVariables false
set_option linter.unusedSimpArgs false
namespace Go.Proofs.YthhpcjoaogmhbaaGreatDoor
theorem zm33q1 {p : Prop} (h : p := by (simp only [Tryz.f4, resA, resOne, toT, fin, exb, Nat.reduceAdd, Nat.reduceLeDiff, Nat.reduceEqDiff, Nat.reduceMul, Int.reduceToNat, reduceIte, Int.reduceLE, Int.reduceNeg])) : p := h
theorem zm33q2 {p : Prop} (h : p := by (simp only [exb, Nat.reduceAdd, Nat.reduceLeDiff, Nat.reduceEqDiff, Nat.reduceMul, Int.reduceToNat, reduceIte, Int.reduceLE, Int.reduceNeg, beq_self_eq_true]; rfl)) : p := h
theorem zm33q3 {p : Prop} (h : p := by (first | rfl | (simp only [exb, Nat.reduceAdd, Nat.reduceLeDiff, Nat.reduceEqDiff, Nat.reduceMul, Int.reduceToNat, reduceIte, Int.reduceLE, Int.reduceNeg]; rfl))) : p := h
theorem zm33q4 {p : Prop} (h : p := by (simp only [exb, Nat.reduceAdd, Nat.reduceLeDiff, Nat.reduceEqDiff, Nat.reduceMul, Int.reduceToNat, reduceIte, Int.reduceLE, Int.reduceNeg, hat]; rfl)) : p := h
theorem zm33q5 {p : Prop} (h : p := by (unfold Func.isWrapper; first | (rw [if_pos (by decide +kernel)]; kernel_rfl) | (rw [if_neg (by decide +kernel)]; exact ⟨rfl, rfl⟩))) : p := h
theorem zm33q6 {p : Prop} (h : p := by (first | rfl | (simp only [upd_app, entry_zero, entry_succ, Nat.reduceEqDiff, reduceIte, List.length_map]; done))) : p := h
theorem zm33q7 {p : Prop} (h : p := by (first | rfl | (simp only [upd_app, killM_app, Nat.reduceEqDiff, reduceIte, List.length_map]; done))) : p := h
end Go.Proofs.YthhpcjoaogmhbaaGreatDoor
section
namespace Go.Proofs.YthhpcjoaogmhbaaGreatDoor
namespace V
open Go.RowKit
theorem smallEs_mem {N : Nat} : ∀ {l : List Expr} {x : Expr}, SmallEs N l → x ∈ l → SmallE N x
 | y :: l, x, h, hx => by
   simp only [SmallEs] at h
   rcases List.mem_cons.1 hx with rfl | hx
   ·exact h.1
   ·exact smallEs_mem h.2 hx
theorem saysBs_any (l : List Expr) : saysBs l = l.any saysB := by induction l with | nil => simp [saysBs] | cons x l ih => simp [saysBs, ih]
theorem says_ok : ∀ (z : Nat) (x : Expr), SizeOf.sizeOf x ≤ z → SmallE 1048576 x → ∀ m, COk Tryz.prog 8 [.agg (cExpr x)] m (.c (.bool (saysB x))) := by
 intro z
 induction z using Nat.strongRecOn with
 | ind z ih =>
 rintro ⟨k, n, nm, kids⟩ hz hx m
 have hsz := Expr.mk.sizeOf_spec k n nm kids
 simp only [SmallE] at hx
 obtain ⟨hl, hkids⟩ := hx
 have hsb : saysB ⟨k, n, nm, kids⟩ = (kids.any saysB || decide (k = 3)) := by simp only [saysB, saysBs_any]
 simp only [cExpr, cExprs_map]
 refine (ok_pure tab_ok Tryz.func8 (by kernel_rfl) rfl rfl (by rfl) (by rfl) (by rfl) (fun R hkeep => ?_) m)
 repeat (first | refine W.seq ?_ | refine W.block ?_ | refine W.skip ?_ | refine W.exit ?_ | refine W.g ?_ (by simp only [exb, Nat.reduceAdd, Nat.reduceLeDiff, Nat.reduceEqDiff, Nat.reduceMul, Int.reduceToNat, reduceIte, Int.reduceLE, Int.reduceNeg, List.length_map]; rfl))
 refine W.loop (ι := Nat) (fun i => ⟨upd (upd (upd (upd (upd (fun _ => .top) 1 (.ptr 1 0)) 2 (.c (.bool false))) 6 (.c (.sl (kids.map cExpr)))) 7 (.c (.int .i64 kids.length))) 8 (.c (.int .i64 i)), upd Mem.nil 1 (some (.box 29 [.c (.int .i64 k), .c (.int .i64 n), .c (.str nm), .c (.sl (kids.map cExpr))]))⟩) (fun i => i ≤ kids.length ∧ (kids.take i).any saysB = false) (fun i => kids.length - i) 0 ?start ⟨Nat.zero_le _, rfl⟩ ?round
 case start =>
  refine le_L ?sle ?mle (kept_not hkeep)
  case mle => repeat (first | exact mle_nil _ | exact mle_refl _ | refine mle_upd ?_ zm33q7)
  case sle => repeat (first | exact sle_top _ | exact sle_refl _ | refine sle_upd ?_ zm33q6)
 case round =>
  rintro i ⟨hi, hall⟩
  refine W.go ?_
  refine W.cond rfl ?_ ?_
  ·intro hlt
   simp only [decide_eq_true_eq, Int.ofNat_lt] at hlt
   obtain ⟨y, hy⟩ : ∃ y, kids[i]? = some y := ⟨_, List.getElem?_eq_getElem hlt⟩
   have hym := List.mem_of_getElem? hy
   have hc := ih (SizeOf.sizeOf y) (by have := List.sizeOf_lt_of_mem hym; omega) y (Nat.le_refl _) (smallEs_mem hkids hym)
   have hat := at_map (f := cExpr) hy
   have hall1 : (kids.take (i + 1)).any saysB = saysB y := by
    rw [List.take_add_one, hy, List.any_append, hall]; simp
   have hany : saysB y = true → saysB ⟨k, n, nm, kids⟩ = true := fun h => by
    rw [hsb, Bool.or_eq_true]
    exact .inl (List.any_eq_true.2 ⟨y, hym, h⟩)
   obtain ⟨yk, yn, ym, ys⟩ := y
   simp only [cExpr] at hat hc
   repeat (first | refine W.seq ?_ | refine W.block ?_ | refine W.skip ?_ | refine W.exit ?_ | refine W.g ?_ zm33q4)
   refine W.bl ?_
   refine W.regionK tab_ok 0 (by decide) ?_
   refine xs0 1 ?_
   refine runk_call rfl rfl rfl rfl rfl (by simp) cw1 (hc _) ?_
   refine xe0 ?_
   refine W.go ?_
   refine W.cond rfl ?_ ?_
   ·intro hs
    refine W.go ?_
    refine W.ret ⟨.inr rfl, by rfl, ?_⟩
    simp only [Tryz.f8, resA, resOne, toT, fin, exb, Nat.reduceAdd, Nat.reduceLeDiff, Nat.reduceEqDiff, Nat.reduceMul, Int.reduceToNat, reduceIte, Int.reduceLE, Int.reduceNeg]
    rw [hany hs]
   ·intro hs
    refine W.go ?_
    refine ⟨i + 1, ⟨hlt, by rw [hall1]; exact hs⟩, by omega, ?_⟩
    exact le_Si (kept_not hkeep)
  ·intro hge
   simp only [decide_eq_false_iff_not, Int.ofNat_lt] at hge
   obtain rfl : i = kids.length := by omega
   rw [List.take_length] at hall
   refine W.go ?_
   refine W.ret ⟨.inr rfl, by rfl, ?_⟩
   simp only [Tryz.f8, resA, resOne, toT, fin, exb, Nat.reduceAdd, Nat.reduceLeDiff, Nat.reduceEqDiff, Nat.reduceMul, Int.reduceToNat, reduceIte, Int.reduceLE, Int.reduceNeg]
   rw [hsb, hall, Bool.false_or]
def oneP : Program := ⟨[⟨⟨#[65]⟩, ⟨#[]⟩, [⟨⟨#[105, 110, 116]⟩, ⟨#[102]⟩⟩], []⟩, ⟨⟨#[66]⟩, ⟨#[65]⟩, [], []⟩], []⟩
def oneX : Expr := ⟨7, 0, ⟨#[102]⟩, [⟨4, 0, ⟨#[120]⟩, []⟩]⟩
def oneE : List Slot := [⟨⟨#[65]⟩, ⟨#[120]⟩⟩]
theorem one_ok (m : Mem) : COk Tryz.prog 11 [] m (.agg (cProg oneP)) := by
 refine (ok_pure tab_ok Tryz.func11 (by kernel_rfl) rfl rfl (by rfl) (by rfl) (by rfl) (fun R hkeep => ?_) m)
 refine W.go ?_
 refine W.ret ⟨.inr rfl, by rfl, ?_⟩
 simp only [Tryz.f11, resA, resOne, toT, fin, exb, Nat.reduceAdd, Nat.reduceLeDiff, Nat.reduceEqDiff, Nat.reduceMul, Int.reduceToNat, reduceIte, Int.reduceLE, Int.reduceNeg]
 simp [cProg, oneP, cClass, cSlot, cMethod, cStmts]
theorem one_type : typeR oneP ⟨#[]⟩ oneE oneX = (⟨#[105, 110, 116]⟩, 0) := by decide +kernel
theorem small_one : SmallC oneP.classes := by
 intro c hc
 simp only [oneP, List.mem_cons, List.not_mem_nil, or_false] at hc
 rcases hc with rfl | rfl <;> simp
theorem smallB_one : SmallB oneP.classes := by
 intro c hc
 simp only [oneP, List.mem_cons, List.not_mem_nil, or_false] at hc
 rcases hc with rfl | rfl <;> simp
theorem one_len : (exprX oneX 1).length ≤ 140737488351232 := by decide +kernel
theorem live_ok (m : Mem) : COk Tryz.prog 6 [] m (.c (.bool true)) := by
 have h1 := type_ok oneP ⟨#[]⟩ oneE oneX small_one smallB_one (by decide) (by decide) (fun _ => one_len)
 rw [one_type] at h1
 simp only [oneP, oneX, oneE, cProg, cStmts, cClass, cExpr, cExprs, cSlot, List.map_cons, List.map_nil] at h1
 have h2 := one_ok
 simp only [oneP, cProg, cStmts, cClass, cSlot, List.map_cons, List.map_nil] at h2
 refine (ok_pure tab_ok Tryz.func6 (by kernel_rfl) rfl rfl (by rfl) (by rfl) (by rfl) (fun R hkeep => ?_) m)
 refine W.go ?_
 refine W.regionK tab_ok 0 (by decide) ?_
 refine xs0 0 ?_
 refine runk_call rfl rfl rfl rfl rfl (by simp) cvs_nil (h2 _) ?_
 refine xs0 5 ?_
 refine runk_call rfl rfl rfl rfl rfl (by simp) cw4 (h1 _) ?_
 refine xe0 ?_
 refine W.go ?_
 exact W.ret ⟨.inr rfl, by rfl, (by simp only [Tryz.f6, resA, resOne, toT, fin, exb, Nat.reduceAdd, Nat.reduceLeDiff, Nat.reduceEqDiff, Nat.reduceMul, Int.reduceToNat, reduceIte, Int.reduceLE, Int.reduceNeg])⟩
theorem typeR_inn {p : Program} {a b : ByteArray} {env : List Slot} {x : Expr} (h : saysB x = false) : typeR p a env x = typeR p b env x := by
 unfold typeR
 rw [typB_inn (a := a) (b := b) x h]
theorem typeR_hid {p : Program} {inn : ByteArray} (env more : List Slot) {x : Expr} : typeR p inn (env ++ hidB env more) x = typeR p inn env x := by
 unfold typeR
 rw [typB_hid]
set_option maxHeartbeats 4000000 in
theorem lawPlaces_ok (p : Program) (a b : ByteArray) (env : List Slot) (x : Expr) (hS : SmallC p.classes) (hB : SmallB p.classes) (hlen : p.classes.length ≤ 1048576) (henv : env.length ≤ 1000000000) (hx : SmallE 1048576 x) (hs : exprB x = true → (exprX x 1).length ≤ 140737488351232) (m : Mem) :
 COk Tryz.prog 4 [.agg (cProg p), .c (.str a), .c (.str b), .c (.sl (env.map cSlot)), .agg (cExpr x)] m (.c (.bool true)) := by
 have hcp : cProg p = [.sl (p.classes.map cClass), .sl (cStmts p.main)] := rfl
 have h1 := type_ok p a env x hS hB hlen henv hs
 have h2 := type_ok p b env x hS hB hlen henv hs
 have hsy := says_ok _ x (Nat.le_refl _) hx
 have hck := refChk_ok p hS hlen
 have heq : saysB x = false → typeR p b env x = typeR p a env x := fun h => typeR_inn h
 obtain ⟨u, hu⟩ : ∃ u, typeR p a env x = u := ⟨_, rfl⟩
 obtain ⟨sx, hsx⟩ : ∃ sx, saysB x = sx := ⟨_, rfl⟩
 obtain ⟨E, hE⟩ : ∃ E, chkErr (errP p) p.classes = E := ⟨_, rfl⟩
 rw [hE] at hck
 rw [hu] at h1
 rw [hsx] at hsy heq
 rw [hu] at heq
 obtain ⟨xk, xn, xm, xs⟩ := x
 simp only [cExpr] at h1 h2 hsy
 rw [hcp] at h1 h2 hck
 simp only [cExpr]
 rw [hcp]
 refine (ok_pure tab_ok Tryz.func4 (by kernel_rfl) rfl rfl (by rfl) (by rfl) (by rfl) (fun R hkeep => ?_) m)
 refine W.go ?_
 refine W.bl ?_
 refine W.regionK tab_ok 0 (by decide) ?_
 refine xs0 0 ?_
 refine runk_call rfl rfl rfl rfl rfl (by simp) cvs_nil (live_ok _) ?_
 refine xe0 ?_
 refine W.bl ?_
 refine W.regionK tab_ok 0 (by decide) ?_
 refine xs0 1 ?_
 refine runk_call rfl rfl rfl rfl rfl (by simp) cw1 (hsy _) ?_
 cases sx with
 | true =>
   refine xe0 ?_
   refine W.bl ?_
   refine W.cond rfl (fun _ => ?_) (fun h => absurd h (by decide))
   refine W.go ?_
   exact W.ret ⟨.inr rfl, by rfl, zm33q1⟩
 | false =>
   rw [heq rfl] at h2
   refine xs0 2 ?_
   refine runk_call rfl rfl rfl rfl rfl (by simp) cw1 (hck _) ?_
   refine xe0 ?_
   refine W.bl ?_
   refine W.cond rfl ?_ ?_
   ·intro _
    refine W.go ?_
    exact W.ret ⟨.inr rfl, by rfl, zm33q1⟩
   ·intro _
    refine W.go ?_
    refine W.bl ?_
    refine W.regionK tab_ok 0 (by decide) ?_
    refine xs0 4 ?_
    refine runk_call rfl rfl rfl rfl rfl (by simp) cw4 (h1 _) ?_
    refine xe0 ?_
    refine W.bl ?_
    refine W.regionK tab_ok 0 (by decide) ?_
    refine xs0 4 ?_
    refine runk_call rfl rfl rfl rfl rfl (by simp) cw4 (h2 _) ?_
    refine xe0 ?_
    repeat (first | refine W.seq ?_ | refine W.block ?_ | refine W.skip ?_ | refine W.exit ?_ | refine W.g ?_ zm33q2)
    exact W.ret ⟨.inr rfl, by rfl, (by simp only [Tryz.f4, resA, resOne, toT, fin, exb, Nat.reduceAdd, Nat.reduceLeDiff, Nat.reduceEqDiff, Nat.reduceMul, Int.reduceToNat, reduceIte, Int.reduceLE, Int.reduceNeg, beq_self_eq_true])⟩
end V
end Go.Proofs.YthhpcjoaogmhbaaGreatDoor
end
section
namespace Go.Proofs.YthhpcjoaogmhbaaGreatDoor
open Go.ChangeShapes Go.WideShapes Go.ChangeAt Go.RowKit
open Go.ChangeMaps (open_string shut_string)
open V
theorem checkPlaces_met (os : Os) : laidMet Tryz.prog Rows.checkPlacesUptoRow.laid ((laidWorld os).forCall (fun _ _ => 0) ⟨#[], #[.agg #[.slice none 0 0, .slice none 0 0], .string ⟨#[]⟩, .string ⟨#[]⟩, .slice none 0 0, .agg #[.int .i64 0, .int .i64 0, .string ⟨#[]⟩, .slice none 0 0]], []⟩).memory :=
 laidMet_of_run' 8 (by kernel_rfl) (by kernel_rfl)
theorem checkPlaces_reads (os : Os) {H : Type} (enc : TypeId × Value → H) : ∃ places, DataW.whole enc Tryz.prog ((laidWorld os).forCall (fun _ _ => 0) ⟨#[], #[.agg #[.slice none 0 0, .slice none 0 0], .string ⟨#[]⟩, .string ⟨#[]⟩, .slice none 0 0, .agg #[.int .i64 0, .int .i64 0, .string ⟨#[]⟩, .slice none 0 0]], []⟩).memory Tryz.f4.params.toList Rows.checkPlacesSpec.vars false (#[.agg #[.slice none 0 0, .slice none 0 0], .string ⟨#[]⟩, .string ⟨#[]⟩, .slice none 0 0, .agg #[.int .i64 0, .int .i64 0, .string ⟨#[]⟩, .slice none 0 0]] : Array Value).toList 8 = some ([.agg [.nil, .nil], .lit (.string []), .lit (.string []), .nil, .agg [.lit (.int .i64 0), .lit (.int .i64 0), .lit (.string []), .nil]], [], places) :=
 ⟨[], by kernel_rfl⟩
set_option maxRecDepth 100000 in
set_option maxHeartbeats 4000000 in
theorem checkPlaces_lifted (os : Os) (started : os.Started) (H : Type) (enc : TypeId × Value → H) (F : Stop.Interp) :
 ReturnsInHanded {} Tryz.checked os 4 .any ((Rows.OpenSpec.upto Rows.checkPlacesSpec).preRow enc Tryz.prog Tryz.f4 Rows.checkPlacesUptoRow.domain false Rows.checkPlacesUptoRow.laid) (((Rows.OpenSpec.upto Rows.checkPlacesSpec).at F).post enc Tryz.prog Tryz.f4 false true false false) := by
 obtain ⟨places, hx⟩ := checkPlaces_reads os enc
 refine returnsInHanded_of_row (C := Tryz.checked) (s := Rows.OpenSpec.upto Rows.checkPlacesSpec) own started (by kernel_rfl) Tryz.func4
  (witness_row_at (enc := enc) (C := Tryz.checked) false (laidWorld os) #[.agg #[.slice none 0 0, .slice none 0 0], .string ⟨#[]⟩, .string ⟨#[]⟩, .slice none 0 0, .agg #[.int .i64 0, .int .i64 0, .string ⟨#[]⟩, .slice none 0 0]] rfl (by kernel_rfl) (by kernel_rfl) (by kernel_rfl)
    (OpenSpec.preRow_of_cond 8 hx (by kernel_rfl) (fun k hk => by cases hk; rfl) (by kernel_rfl) (checkPlaces_met os))) ?_
 intro W base args ds gs before hval0 hW _ hcond hsz0 hL hsh _
 have hbulk : Rows.uptoBulkAll (ds ++ gs) ≤ 1048576 := of_decide_eq_true (hcond _ rfl)
 clear hcond
 have hval : ∀ (j : Nat) t v, Tryz.f4.params[j]? = some t → args[j]? = some v → Value.okWide Tryz.prog W .any base t v := hval0
 have hW' := hW
 obtain ⟨p, q, hA0, hV, rfl, hfz, hnd⟩ := hW
 have hA : DataW.TrodAll enc Tryz.prog W 0 (fun _ => true) true Tryz.f4.params.toList args.toList ds p := hA0
 have hsz : ∀ n ∈ DataW.weightsEach Tryz.prog (Tryz.f4.params.toList ++ Rows.checkPlacesSpec.plain.varTypes Tryz.prog) (ds ++ gs), n ≤ reachBytes := fun n hn => of_decide_eq_true (List.all_eq_true.1 hsz0 n hn)
 rw [Tryz.params4] at hA hval hsz
 clear hsz0
 obtain ⟨v0, vs0, d0, ds0, p0, q0, hargs, rfl, rfl, h0, r0⟩ := trodAll_cons hA
 obtain ⟨v1, vs1, d1, ds1, p1, q1, rfl, rfl, rfl, h1, r1⟩ := trodAll_cons r0
 obtain ⟨v2, vs2, d2, ds2, p2, q2, rfl, rfl, rfl, h2, r2⟩ := trodAll_cons r1
 obtain ⟨v3, vs3, d3, ds3, p3, q3, rfl, rfl, rfl, h3, r3⟩ := trodAll_cons r2
 obtain ⟨v4, vs4, d4, ds4, p4, q4, rfl, rfl, rfl, h4, r4⟩ := trodAll_cons r3
 obtain ⟨rfl, rfl, rfl⟩ := trodAll_nil r4
 obtain rfl : args = #[v0, v1, v2, v3, v4] := by cases args; simp_all
 obtain ⟨rfl, rfl⟩ := trodVars_none hV
 clear hA0 hval0
 simp only [List.append_nil] at hW'
 have k0 := h0
 have lt0 : ∀ x ∈ p0, x.block < W.heap.size := by obtain ⟨m, hm⟩ := k0; exact DataW.trod_lt m _ _ _ hm
 have k1 := h1
 have lt1 : ∀ x ∈ p1, x.block < W.heap.size := by obtain ⟨m, hm⟩ := k1; exact DataW.trod_lt m _ _ _ hm
 have k2 := h2
 have lt2 : ∀ x ∈ p2, x.block < W.heap.size := by obtain ⟨m, hm⟩ := k2; exact DataW.trod_lt m _ _ _ hm
 have k3 := h3
 have lt3 : ∀ x ∈ p3, x.block < W.heap.size := by obtain ⟨m, hm⟩ := k3; exact DataW.trod_lt m _ _ _ hm
 have k4 := h4
 have lt4 : ∀ x ∈ p4, x.block < W.heap.size := by obtain ⟨m, hm⟩ := k4; exact DataW.trod_lt m _ _ _ hm
 have fit0 : Fits Tryz.prog 25 d0 := fun n hn => hsz n (DataW.weights_mem_each (j := 0) rfl rfl n hn)
 have hG : GlobOk W := ⟨cell_of_shapedOpen_int (zero := #[.int .i64 0]) (t := 3) hsh (of_decide_eq_true (by kernel_rfl)) (by kernel_rfl) rfl (by kernel_rfl) (by kernel_rfl) Tryz.underlying3, tens_of hL⟩
 obtain ⟨cs0, rfl, -⟩ := okWide_struct Tryz.underlying25 (hval 0 25 v0 rfl rfl)
 obtain ⟨e0, g0, w0⟩ := read_program fit0 h0 ⟨cs0, rfl⟩
 obtain ⟨n0, hn0⟩ := h0
 obtain ⟨hlen, hS⟩ := small_of (cs := cs0.toList) (N := 1048576) (x := (d0, p0)) (by simpa using w0) hn0 (Nat.le_trans (bulk_mem (by simp)) hbulk)
 have hBo := smallB_of (cs := cs0.toList) (x := (d0, p0)) (by simpa using w0) hn0 (Nat.le_trans (bulk_mem (by simp)) hbulk)
 have fit1 : Fits Tryz.prog 9 d1 := fun n hn => hsz n (DataW.weights_mem_each (j := 1) rfl rfl n hn)
 obtain ⟨m1, h11⟩ := h1
 obtain ⟨s1, es1, gs1, -⟩ := DataW.trod_string Tryz.underlying9 h11
 have ls1 : s1.size ≤ maxS := fit_string gs1 fit1
 obtain ⟨u1, rfl⟩ := okWide_string Tryz.underlying9 (hval 1 9 v1 rfl rfl)
 obtain rfl : u1 = s1 := by simpa [Value.cells] using es1
 have fit2 : Fits Tryz.prog 9 d2 := fun n hn => hsz n (DataW.weights_mem_each (j := 2) rfl rfl n hn)
 obtain ⟨m2, h22⟩ := h2
 obtain ⟨s2, es2, gs2, -⟩ := DataW.trod_string Tryz.underlying9 h22
 have ls2 : s2.size ≤ maxS := fit_string gs2 fit2
 obtain ⟨u2, rfl⟩ := okWide_string Tryz.underlying9 (hval 2 9 v2 rfl rfl)
 obtain rfl : u2 = s2 := by simpa [Value.cells] using es2
 have fit3 : Fits Tryz.prog 26 d3 := fun n hn => hsz n (DataW.weights_mem_each (j := 3) rfl rfl n hn)
 obtain ⟨sa3, sn3, sc3, rfl⟩ := okWide_slice Tryz.underlying26 (hval 3 26 v3 rfl rfl)
 obtain ⟨rn3, h3⟩ := h3
 obtain ⟨rv3, l3, re3, R3⟩ := read_slots fit3 h3
 obtain rfl : rv3 = _ := by simpa [Value.cells] using re3.symm
 have sl3 : l3.length ≤ 1048576 := Nat.le_trans (slots_bulk R3 h3) (Nat.le_trans (bulk_mem (by simp)) hbulk)
 have fit4 : Fits Tryz.prog 29 d4 := fun n hn => hsz n (DataW.weights_mem_each (j := 4) rfl rfl n hn)
 obtain ⟨cs4, rfl, -⟩ := okWide_struct Tryz.underlying29 (hval 4 29 v4 rfl rfl)
 obtain ⟨rn4, h4⟩ := h4
 obtain ⟨x4, R4⟩ := read_expr rn4 fit4 h4
 replace R4 : RExpr rn4 W (· < W.heap.size) cs4.toList x4 := by simpa [Value.cells] using R4
 have hc4 : cntE x4 ≤ 1048576 := Nat.le_trans (expr_cnt _ _ _ _ _ R4 h4) (Nat.le_trans (bulk_mem (by simp)) hbulk)
 have hm4 : SmallE 1048576 x4 := expr_small _ _ _ _ _ R4 h4 (Nat.le_trans (bulk_mem (by simp)) hbulk)
 refine (cok_true (vals := [_, _, _, _, _]) (lawPlaces_ok g0 u1 u2 l3 x4 hS hBo hlen (Nat.le_trans sl3 (by decide)) hm4 (fun hb => expr_short hc4 1 hb) _) hG (fun B => ⟨rv_prog w0, rv_str ls1, rv_str ls2, rv_slots R3, rv_expr R4, trivial⟩)).mono fun e W' ⟨he, bel⟩ => ?_
 subst he
 exact ⟨_, rfl, _, _, _, [], _, [], hW', trodAll_mk1 (shut_bool Tryz.underlying4 _), trodAll_cons_mk (Below.trod laidOut (by kernel_rfl) (of_decide_eq_true (by kernel_rfl)) k0 bel lt0) (trodAll_cons_mk (Below.trod laidOut (by kernel_rfl) (of_decide_eq_true (by kernel_rfl)) k1 bel lt1) (trodAll_cons_mk (Below.trod laidOut (by kernel_rfl) (of_decide_eq_true (by kernel_rfl)) k2 bel lt2) (trodAll_cons_mk (Below.trod laidOut (by kernel_rfl) (of_decide_eq_true (by kernel_rfl)) k3 bel lt3) (trodAll_cons_mk (Below.trod laidOut (by kernel_rfl) (of_decide_eq_true (by kernel_rfl)) k4 bel lt4) trodAll_mk0)))), rfl, bel.frame _, fun h => by cases h⟩
theorem checkPlaces_holds : Rows.CheckPlacesUptoSaid :=
 OpenClaim.holds_of_cond 4 Tryz.f4 rfl rfl rfl rfl rfl rfl rfl ⟨rfl, rfl, rfl, rfl, rfl⟩ rfl rfl rfl rfl rfl (by kernel_rfl) Tryz.func4 (by kernel_rfl)
  (of_decide_eq_true (by kernel_rfl)) zm33q5
  (fun os started H enc _ F => by rw [OpenClaim.pre_eq_preRow]; exact checkPlaces_lifted os started H enc F)
theorem checkPlaces_plain (f : FuncId) (fn : Func) (hf : Tryz.pinned.checked.prog.funcNamed "mordant/mordantlaw07.CheckPlaces" = some f) (hfn : Tryz.pinned.checked.prog.funcs[f]? = some fn) :
 true = Tryz.pinned.checked.prog.looks [] ∧ ∀ (j : Nat) t, fn.params[j]? = some t → Tryz.pinned.checked.prog.wantsStandIn t = false := by
 obtain rfl : f = 4 := Option.some.inj ((show Tryz.prog.funcNamed "mordant/mordantlaw07.CheckPlaces" = some 4 by kernel_rfl).symm.trans hf) |>.symm
 obtain rfl : fn = Tryz.f4 := (Option.some.inj (Tryz.func4.symm.trans hfn)).symm
 refine ⟨by kernel_rfl, fun j t ht => ?_⟩
 have hall : Tryz.f4.params.all (fun t => !Tryz.prog.wantsStandIn t) = true := by kernel_rfl
 have := Array.all_eq_true'.1 hall t (Array.mem_of_getElem? ht)
 have h2 : Tryz.prog.wantsStandIn t = false := by simpa using this
 exact h2
theorem checkPlaces_card : Rows.CheckPlacesUptoCardSaid :=
 Claim7.holds_tied_plain_at .later [] _ _ _ _ checkPlaces_holds (fun _ h => by cases h) (by kernel_rfl) (fun _ h => by cases h) checkPlacesUpto_row_tie rfl ⟨rfl, rfl⟩ (by kernel_rfl) rfl checkPlaces_plain (by kernel_rfl)
end Go.Proofs.YthhpcjoaogmhbaaGreatDoor
end
section
namespace Go.Proofs.YthhpcjoaogmhbaaGreatDoor
namespace V
open Go.RowKit
theorem hid_step {env more : List Slot} {i : Nat} {s : Slot} (h : more[i]? = some s) : (env ++ hidB env (more.take (i + 1))).map cSlot = (env ++ hidB env (more.take i)).map cSlot ++ (if env.any (slotIs s.name) = true then [cSlot s] else []) := by
 unfold hidB
 rw [List.take_add_one, h, List.filter_append]
 by_cases hs : env.any (slotIs s.name) = true
 ·simp [hs]
 ·simp [hs]
theorem hid_len (env more : List Slot) (i : Nat) : (env ++ hidB env (more.take i)).length ≤ env.length + more.length := by
 rw [List.length_append]
 have h1 := List.length_filter_le (fun s => env.any (slotIs s.name)) (more.take i)
 have h2 := List.length_take_le i more
 unfold hidB
 have h3 : (more.take i).length ≤ more.length := by simp; omega
 omega
set_option maxHeartbeats 8000000 in
theorem lawSight_ok (p : Program) (inn : ByteArray) (env more : List Slot) (x : Expr) (hS : SmallC p.classes) (hB : SmallB p.classes) (hlen : p.classes.length ≤ 1048576) (henv : env.length ≤ 1048576) (hmore : more.length ≤ 1048576) (hs : exprB x = true → (exprX x 1).length ≤ 140737488351232) (m : Mem) :
 COk Tryz.prog 3 [.agg (cProg p), .c (.str inn), .c (.sl (env.map cSlot)), .c (.sl (more.map cSlot)), .agg (cExpr x)] m (.c (.bool true)) := by
 have hcp : cProg p = [.sl (p.classes.map cClass), .sl (cStmts p.main)] := rfl
 have h1 := type_ok p inn env x hS hB hlen (by omega) hs
 have h2 := type_ok p inn (env ++ hidB env more) x hS hB hlen (by have := hid_len env more more.length; rw [List.take_length] at this; omega) hs
 rw [typeR_hid] at h2
 obtain ⟨u, hu⟩ : ∃ u, typeR p inn env x = u := ⟨_, rfl⟩
 rw [hu] at h1 h2
 obtain ⟨xk, xn, xm, xs⟩ := x
 simp only [cExpr] at h1 h2
 rw [hcp] at h1 h2
 simp only [cExpr]
 rw [hcp]
 refine (ok_pure tab_ok Tryz.func3 (by kernel_rfl) rfl rfl (by rfl) (by rfl) (by rfl) (fun R hkeep => ?_) m)
 refine W.go ?_
 refine W.bl ?_
 refine W.regionK tab_ok 0 (by decide) ?_
 refine xs0 0 ?_
 refine runk_call rfl rfl rfl rfl rfl (by simp) cvs_nil (live_ok _) ?_
 refine xe0 ?_
 refine W.bl ?_
 refine W.regionK tab_ok 0 (by decide) ?_
 refine xs0 4 ?_
 refine runk_call rfl rfl rfl rfl rfl (by simp) cw4 (h1 _) ?_
 refine xe0 ?_
 refine W.go ?_
 refine W.newArr 14 100 35 2 rfl rfl ?_
 refine W.bl ?_
 refine W.regionK tab_ok 0 (by decide) ?_
 refine xs0 2 ?_
 refine runk_append tab_ok 100 rfl rfl rfl rfl rfl rfl rfl rfl zm33q3 rfl rfl rfl rfl (nokeep hkeep) (by intro z hz; obtain ⟨s, -, rfl⟩ := List.mem_map.1 hz; rfl) (by simp only [List.length_map, List.length_nil]; omega) (by decide) ?_
 refine xe0 ?_
 refine W.go ?_
 refine W.loop (ι := Nat) (fun i => ⟨upd (upd (upd (upd (upd (upd (upd (upd (upd (upd (upd (fun _ => .top) 1 (.c (.str inn))) 2 (.c (.sl (env.map cSlot)))) 5 (.ptr 5 0)) 9 (.ptr 9 0)) 11 (.c (.bool true))) 12 (.c (.str u.1))) 13 (.c (.int .i64 u.2))) 14 (.own 100)) 33 (.c (.sl (more.map cSlot)))) 34 (.c (.int .i64 more.length))) 35 (.c (.int .i64 i)), upd (upd (upd Mem.nil 5 (some (.box 25 [.c (.sl (p.classes.map cClass)), .c (.sl (cStmts p.main))]))) 9 (some (.box 29 [.c (.int .i64 xk), .c (.int .i64 xn), .c (.str xm), .c (.sl (cExprs xs))]))) 100 (some (.arr 35 2 ((env ++ hidB env (more.take i)).map cSlot)))⟩) (fun i => i ≤ more.length) (fun i => more.length - i) 0 ?start (Nat.zero_le _) ?round
 case start =>
  have e0 : (env ++ hidB env (more.take 0)).map cSlot = env.map cSlot := by simp [hidB]
  rw [e0]
  refine le_L ?sle ?mle (kept_not hkeep)
  case mle => repeat (first | exact mle_nil _ | exact mle_refl _ | refine mle_upd ?_ zm33q7)
  case sle => repeat (first | exact sle_top _ | exact sle_refl _ | refine sle_upd ?_ zm33q6)
 case round =>
  intro i hi
  refine W.go ?_
  refine W.cond rfl ?_ ?_
  ·intro hlt
   simp only [decide_eq_true_eq, Int.ofNat_lt] at hlt
   obtain ⟨s, hsi⟩ : ∃ s, more[i]? = some s := ⟨_, List.getElem?_eq_getElem hlt⟩
   have hst := hid_step (env := env) hsi
   have hat := at_map (f := cSlot) hsi
   have hln := hid_len env more i
   obtain ⟨sty, snm⟩ := s
   simp only [cSlot] at hat
   repeat (first | refine W.seq ?_ | refine W.block ?_ | refine W.skip ?_ | refine W.exit ?_ | refine W.g ?_ zm33q4)
   refine W.loop (ι := Nat) (fun k => ⟨upd (upd (upd (upd (upd (upd (upd (upd (upd (upd (upd (upd (upd (upd (upd (fun _ => .top) 1 (.c (.str inn))) 2 (.c (.sl (env.map cSlot)))) 5 (.ptr 5 0)) 9 (.ptr 9 0)) 11 (.c (.bool true))) 12 (.c (.str u.1))) 13 (.c (.int .i64 u.2))) 14 (.own 100)) 33 (.c (.sl (more.map cSlot)))) 34 (.c (.int .i64 more.length))) 35 (.c (.int .i64 i))) 16 (.ptr 16 0)) 39 (.c (.sl (env.map cSlot)))) 40 (.c (.int .i64 env.length))) 41 (.c (.int .i64 k)), upd (upd (upd (upd Mem.nil 5 (some (.box 25 [.c (.sl (p.classes.map cClass)), .c (.sl (cStmts p.main))]))) 9 (some (.box 29 [.c (.int .i64 xk), .c (.int .i64 xn), .c (.str xm), .c (.sl (cExprs xs))]))) 100 (some (.arr 35 2 ((env ++ hidB env (more.take i)).map cSlot)))) 16 (some (.box 35 [.c (.str sty), .c (.str snm)]))⟩)
    (fun k => k ≤ env.length ∧ (env.take k).any (slotIs snm) = false) (fun k => env.length - k) 0 ?start2 ⟨Nat.zero_le _, rfl⟩ ?round2
   case start2 =>
    refine le_L ?sle ?mle (kept_not hkeep)
    case mle => repeat (first | exact mle_nil _ | exact mle_refl _ | refine mle_upd ?_ zm33q7)
    case sle => repeat (first | exact sle_top _ | exact sle_refl _ | refine sle_upd ?_ zm33q6)
   case round2 =>
    rintro k ⟨hk, hall⟩
    refine W.go ?_
    refine W.cond rfl ?_ ?_
    ·intro hlk
     simp only [decide_eq_true_eq, Int.ofNat_lt] at hlk
     obtain ⟨o, hok⟩ : ∃ o, env[k]? = some o := ⟨_, List.getElem?_eq_getElem hlk⟩
     have hat2 := at_map (f := cSlot) hok
     have hom := List.mem_of_getElem? hok
     have hall1 : (env.take (k + 1)).any (slotIs snm) = slotIs snm o := by
      rw [List.take_add_one, hok, List.any_append, hall]; simp
     have hany : slotIs snm o = true → env.any (slotIs snm) = true := fun h => List.any_eq_true.2 ⟨o, hom, h⟩
     obtain ⟨oty, onm⟩ := o
     simp only [cSlot] at hat2
     repeat (first | refine W.seq ?_ | refine W.block ?_ | refine W.skip ?_ | refine W.exit ?_ | refine W.g ?_ (by simp only [exb, Nat.reduceAdd, Nat.reduceLeDiff, Nat.reduceEqDiff, Nat.reduceMul, Int.reduceToNat, reduceIte, Int.reduceLE, Int.reduceNeg, hat2]; rfl))
     refine W.cond rfl ?_ ?_
     ·intro hfd
      have hfd : slotIs snm ⟨oty, onm⟩ = true := hfd
      rw [if_pos (hany hfd)] at hst
      refine W.bl ?_
      refine W.regionK tab_ok 0 (by decide) ?_
      refine xs0 3 ?_
      refine runk_append tab_ok 100 rfl rfl rfl rfl rfl rfl rfl rfl zm33q3 rfl rfl rfl rfl (nokeep hkeep) (by simp) (by simp only [List.length_map, List.length_cons, List.length_nil]; omega) (by decide) ?_
      refine xe0 ?_
      refine W.go ?_
      refine ⟨i + 1, hlt, by omega, ?_⟩
      rw [hst]
      refine le_L ?sle ?mle (kept_not hkeep)
      case mle => repeat (first | exact mle_nil _ | exact mle_refl _ | refine mle_upd ?_ (by first | rfl | (simp only [upd_app, killM_app, Nat.reduceEqDiff, reduceIte, cSlot, wrap_succ (show i + 1 < 9223372036854775808 by omega)]; done)))
      case sle => repeat (first | exact sle_top _ | exact sle_refl _ | refine sle_upd ?_ (by first | rfl | (simp only [upd_app, entry_zero, entry_succ, Nat.reduceEqDiff, reduceIte, cSlot, wrap_succ (show i + 1 < 9223372036854775808 by omega)]; done)))
     ·intro hfd
      have hfd : slotIs snm ⟨oty, onm⟩ = false := hfd
      refine W.go ?_
      refine ⟨k + 1, ⟨hlk, by rw [hall1]; exact hfd⟩, by omega, ?_⟩
      exact le_Sk (kept_not hkeep)
    ·intro hge
     simp only [decide_eq_false_iff_not, Int.ofNat_lt] at hge
     obtain rfl : k = env.length := by omega
     rw [List.take_length] at hall
     rw [if_neg (by rw [hall]; decide), List.append_nil] at hst
     refine W.go ?_
     refine ⟨i + 1, hlt, by omega, ?_⟩
     rw [hst]
     exact le_Si (kept_not hkeep)
  ·intro hge
   simp only [decide_eq_false_iff_not, Int.ofNat_lt] at hge
   obtain rfl : i = more.length := by omega
   rw [List.take_length]
   refine W.go ?_
   refine W.bl ?_
   refine W.regionK tab_ok 0 (by decide) ?_
   refine xs0 4 ?_
   refine runk_call rfl rfl rfl rfl rfl (by simp) (cvs_cons cv_refl (cvs_cons cv_refl (cvs_cons (cv_own rfl) cw1))) (h2 _) ?_
   refine xe0 ?_
   repeat (first | refine W.seq ?_ | refine W.block ?_ | refine W.skip ?_ | refine W.exit ?_ | refine W.g ?_ zm33q2)
   exact W.ret ⟨.inr rfl, by rfl, (by simp only [Tryz.f3, resA, resOne, toT, fin, exb, Nat.reduceAdd, Nat.reduceLeDiff, Nat.reduceEqDiff, Nat.reduceMul, Int.reduceToNat, reduceIte, Int.reduceLE, Int.reduceNeg, beq_self_eq_true])⟩
end V
end Go.Proofs.YthhpcjoaogmhbaaGreatDoor
end
section
namespace Go.Proofs.YthhpcjoaogmhbaaGreatDoor
open Go.ChangeShapes Go.WideShapes Go.ChangeAt Go.RowKit
open Go.ChangeMaps (open_string shut_string)
open V
theorem checkSight_met (os : Os) : laidMet Tryz.prog Rows.checkSightUptoRow.laid ((laidWorld os).forCall (fun _ _ => 0) ⟨#[], #[.agg #[.slice none 0 0, .slice none 0 0], .string ⟨#[]⟩, .slice none 0 0, .slice none 0 0, .agg #[.int .i64 0, .int .i64 0, .string ⟨#[]⟩, .slice none 0 0]], []⟩).memory :=
 laidMet_of_run' 8 (by kernel_rfl) (by kernel_rfl)
theorem checkSight_reads (os : Os) {H : Type} (enc : TypeId × Value → H) : ∃ places, DataW.whole enc Tryz.prog ((laidWorld os).forCall (fun _ _ => 0) ⟨#[], #[.agg #[.slice none 0 0, .slice none 0 0], .string ⟨#[]⟩, .slice none 0 0, .slice none 0 0, .agg #[.int .i64 0, .int .i64 0, .string ⟨#[]⟩, .slice none 0 0]], []⟩).memory Tryz.f3.params.toList Rows.checkSightSpec.vars false (#[.agg #[.slice none 0 0, .slice none 0 0], .string ⟨#[]⟩, .slice none 0 0, .slice none 0 0, .agg #[.int .i64 0, .int .i64 0, .string ⟨#[]⟩, .slice none 0 0]] : Array Value).toList 8 = some ([.agg [.nil, .nil], .lit (.string []), .nil, .nil, .agg [.lit (.int .i64 0), .lit (.int .i64 0), .lit (.string []), .nil]], [], places) :=
 ⟨[], by kernel_rfl⟩
set_option maxRecDepth 100000 in
set_option maxHeartbeats 4000000 in
theorem checkSight_lifted (os : Os) (started : os.Started) (H : Type) (enc : TypeId × Value → H) (F : Stop.Interp) :
 ReturnsInHanded {} Tryz.checked os 3 .any ((Rows.OpenSpec.upto Rows.checkSightSpec).preRow enc Tryz.prog Tryz.f3 Rows.checkSightUptoRow.domain false Rows.checkSightUptoRow.laid) (((Rows.OpenSpec.upto Rows.checkSightSpec).at F).post enc Tryz.prog Tryz.f3 false true false false) := by
 obtain ⟨places, hx⟩ := checkSight_reads os enc
 refine returnsInHanded_of_row (C := Tryz.checked) (s := Rows.OpenSpec.upto Rows.checkSightSpec) own started (by kernel_rfl) Tryz.func3
  (witness_row_at (enc := enc) (C := Tryz.checked) false (laidWorld os) #[.agg #[.slice none 0 0, .slice none 0 0], .string ⟨#[]⟩, .slice none 0 0, .slice none 0 0, .agg #[.int .i64 0, .int .i64 0, .string ⟨#[]⟩, .slice none 0 0]] rfl (by kernel_rfl) (by kernel_rfl) (by kernel_rfl)
    (OpenSpec.preRow_of_cond 8 hx (by kernel_rfl) (fun k hk => by cases hk; rfl) (by kernel_rfl) (checkSight_met os))) ?_
 intro W base args ds gs before hval0 hW _ hcond hsz0 hL hsh _
 have hbulk : Rows.uptoBulkAll (ds ++ gs) ≤ 1048576 := of_decide_eq_true (hcond _ rfl)
 clear hcond
 have hval : ∀ (j : Nat) t v, Tryz.f3.params[j]? = some t → args[j]? = some v → Value.okWide Tryz.prog W .any base t v := hval0
 have hW' := hW
 obtain ⟨p, q, hA0, hV, rfl, hfz, hnd⟩ := hW
 have hA : DataW.TrodAll enc Tryz.prog W 0 (fun _ => true) true Tryz.f3.params.toList args.toList ds p := hA0
 have hsz : ∀ n ∈ DataW.weightsEach Tryz.prog (Tryz.f3.params.toList ++ Rows.checkSightSpec.plain.varTypes Tryz.prog) (ds ++ gs), n ≤ reachBytes := fun n hn => of_decide_eq_true (List.all_eq_true.1 hsz0 n hn)
 rw [Tryz.params3] at hA hval hsz
 clear hsz0
 obtain ⟨v0, vs0, d0, ds0, p0, q0, hargs, rfl, rfl, h0, r0⟩ := trodAll_cons hA
 obtain ⟨v1, vs1, d1, ds1, p1, q1, rfl, rfl, rfl, h1, r1⟩ := trodAll_cons r0
 obtain ⟨v2, vs2, d2, ds2, p2, q2, rfl, rfl, rfl, h2, r2⟩ := trodAll_cons r1
 obtain ⟨v3, vs3, d3, ds3, p3, q3, rfl, rfl, rfl, h3, r3⟩ := trodAll_cons r2
 obtain ⟨v4, vs4, d4, ds4, p4, q4, rfl, rfl, rfl, h4, r4⟩ := trodAll_cons r3
 obtain ⟨rfl, rfl, rfl⟩ := trodAll_nil r4
 obtain rfl : args = #[v0, v1, v2, v3, v4] := by cases args; simp_all
 obtain ⟨rfl, rfl⟩ := trodVars_none hV
 clear hA0 hval0
 simp only [List.append_nil] at hW'
 have k0 := h0
 have lt0 : ∀ x ∈ p0, x.block < W.heap.size := by obtain ⟨m, hm⟩ := k0; exact DataW.trod_lt m _ _ _ hm
 have k1 := h1
 have lt1 : ∀ x ∈ p1, x.block < W.heap.size := by obtain ⟨m, hm⟩ := k1; exact DataW.trod_lt m _ _ _ hm
 have k2 := h2
 have lt2 : ∀ x ∈ p2, x.block < W.heap.size := by obtain ⟨m, hm⟩ := k2; exact DataW.trod_lt m _ _ _ hm
 have k3 := h3
 have lt3 : ∀ x ∈ p3, x.block < W.heap.size := by obtain ⟨m, hm⟩ := k3; exact DataW.trod_lt m _ _ _ hm
 have k4 := h4
 have lt4 : ∀ x ∈ p4, x.block < W.heap.size := by obtain ⟨m, hm⟩ := k4; exact DataW.trod_lt m _ _ _ hm
 have fit0 : Fits Tryz.prog 25 d0 := fun n hn => hsz n (DataW.weights_mem_each (j := 0) rfl rfl n hn)
 have hG : GlobOk W := ⟨cell_of_shapedOpen_int (zero := #[.int .i64 0]) (t := 3) hsh (of_decide_eq_true (by kernel_rfl)) (by kernel_rfl) rfl (by kernel_rfl) (by kernel_rfl) Tryz.underlying3, tens_of hL⟩
 obtain ⟨cs0, rfl, -⟩ := okWide_struct Tryz.underlying25 (hval 0 25 v0 rfl rfl)
 obtain ⟨e0, g0, w0⟩ := read_program fit0 h0 ⟨cs0, rfl⟩
 obtain ⟨n0, hn0⟩ := h0
 obtain ⟨hlen, hS⟩ := small_of (cs := cs0.toList) (N := 1048576) (x := (d0, p0)) (by simpa using w0) hn0 (Nat.le_trans (bulk_mem (by simp)) hbulk)
 have hBo := smallB_of (cs := cs0.toList) (x := (d0, p0)) (by simpa using w0) hn0 (Nat.le_trans (bulk_mem (by simp)) hbulk)
 have fit1 : Fits Tryz.prog 9 d1 := fun n hn => hsz n (DataW.weights_mem_each (j := 1) rfl rfl n hn)
 obtain ⟨m1, h11⟩ := h1
 obtain ⟨s1, es1, gs1, -⟩ := DataW.trod_string Tryz.underlying9 h11
 have ls1 : s1.size ≤ maxS := fit_string gs1 fit1
 obtain ⟨u1, rfl⟩ := okWide_string Tryz.underlying9 (hval 1 9 v1 rfl rfl)
 obtain rfl : u1 = s1 := by simpa [Value.cells] using es1
 have fit2 : Fits Tryz.prog 26 d2 := fun n hn => hsz n (DataW.weights_mem_each (j := 2) rfl rfl n hn)
 obtain ⟨sa2, sn2, sc2, rfl⟩ := okWide_slice Tryz.underlying26 (hval 2 26 v2 rfl rfl)
 obtain ⟨rn2, h2⟩ := h2
 obtain ⟨rv2, l2, re2, R2⟩ := read_slots fit2 h2
 obtain rfl : rv2 = _ := by simpa [Value.cells] using re2.symm
 have sl2 : l2.length ≤ 1048576 := Nat.le_trans (slots_bulk R2 h2) (Nat.le_trans (bulk_mem (by simp)) hbulk)
 have fit3 : Fits Tryz.prog 26 d3 := fun n hn => hsz n (DataW.weights_mem_each (j := 3) rfl rfl n hn)
 obtain ⟨sa3, sn3, sc3, rfl⟩ := okWide_slice Tryz.underlying26 (hval 3 26 v3 rfl rfl)
 obtain ⟨rn3, h3⟩ := h3
 obtain ⟨rv3, l3, re3, R3⟩ := read_slots fit3 h3
 obtain rfl : rv3 = _ := by simpa [Value.cells] using re3.symm
 have sl3 : l3.length ≤ 1048576 := Nat.le_trans (slots_bulk R3 h3) (Nat.le_trans (bulk_mem (by simp)) hbulk)
 have fit4 : Fits Tryz.prog 29 d4 := fun n hn => hsz n (DataW.weights_mem_each (j := 4) rfl rfl n hn)
 obtain ⟨cs4, rfl, -⟩ := okWide_struct Tryz.underlying29 (hval 4 29 v4 rfl rfl)
 obtain ⟨rn4, h4⟩ := h4
 obtain ⟨x4, R4⟩ := read_expr rn4 fit4 h4
 replace R4 : RExpr rn4 W (· < W.heap.size) cs4.toList x4 := by simpa [Value.cells] using R4
 have hc4 : cntE x4 ≤ 1048576 := Nat.le_trans (expr_cnt _ _ _ _ _ R4 h4) (Nat.le_trans (bulk_mem (by simp)) hbulk)
 have hm4 : SmallE 1048576 x4 := expr_small _ _ _ _ _ R4 h4 (Nat.le_trans (bulk_mem (by simp)) hbulk)
 refine (cok_true (vals := [_, _, _, _, _]) (lawSight_ok g0 u1 l2 l3 x4 hS hBo hlen sl2 sl3 (fun hb => expr_short hc4 1 hb) _) hG (fun B => ⟨rv_prog w0, rv_str ls1, rv_slots R2, rv_slots R3, rv_expr R4, trivial⟩)).mono fun e W' ⟨he, bel⟩ => ?_
 subst he
 exact ⟨_, rfl, _, _, _, [], _, [], hW', trodAll_mk1 (shut_bool Tryz.underlying4 _), trodAll_cons_mk (Below.trod laidOut (by kernel_rfl) (of_decide_eq_true (by kernel_rfl)) k0 bel lt0) (trodAll_cons_mk (Below.trod laidOut (by kernel_rfl) (of_decide_eq_true (by kernel_rfl)) k1 bel lt1) (trodAll_cons_mk (Below.trod laidOut (by kernel_rfl) (of_decide_eq_true (by kernel_rfl)) k2 bel lt2) (trodAll_cons_mk (Below.trod laidOut (by kernel_rfl) (of_decide_eq_true (by kernel_rfl)) k3 bel lt3) (trodAll_cons_mk (Below.trod laidOut (by kernel_rfl) (of_decide_eq_true (by kernel_rfl)) k4 bel lt4) trodAll_mk0)))), rfl, bel.frame _, fun h => by cases h⟩
theorem checkSight_holds : Rows.CheckSightUptoSaid :=
 OpenClaim.holds_of_cond 3 Tryz.f3 rfl rfl rfl rfl rfl rfl rfl ⟨rfl, rfl, rfl, rfl, rfl⟩ rfl rfl rfl rfl rfl (by kernel_rfl) Tryz.func3 (by kernel_rfl)
  (of_decide_eq_true (by kernel_rfl)) zm33q5
  (fun os started H enc _ F => by rw [OpenClaim.pre_eq_preRow]; exact checkSight_lifted os started H enc F)
theorem checkSight_plain (f : FuncId) (fn : Func) (hf : Tryz.pinned.checked.prog.funcNamed "mordant/mordantlaw07.CheckSight" = some f) (hfn : Tryz.pinned.checked.prog.funcs[f]? = some fn) :
 true = Tryz.pinned.checked.prog.looks [] ∧ ∀ (j : Nat) t, fn.params[j]? = some t → Tryz.pinned.checked.prog.wantsStandIn t = false := by
 obtain rfl : f = 3 := Option.some.inj ((show Tryz.prog.funcNamed "mordant/mordantlaw07.CheckSight" = some 3 by kernel_rfl).symm.trans hf) |>.symm
 obtain rfl : fn = Tryz.f3 := (Option.some.inj (Tryz.func3.symm.trans hfn)).symm
 refine ⟨by kernel_rfl, fun j t ht => ?_⟩
 have hall : Tryz.f3.params.all (fun t => !Tryz.prog.wantsStandIn t) = true := by kernel_rfl
 have := Array.all_eq_true'.1 hall t (Array.mem_of_getElem? ht)
 have h2 : Tryz.prog.wantsStandIn t = false := by simpa using this
 exact h2
theorem checkSight_card : Rows.CheckSightUptoCardSaid :=
 Claim7.holds_tied_plain_at .later [] _ _ _ _ checkSight_holds (fun _ h => by cases h) (by kernel_rfl) (fun _ h => by cases h) checkSightUpto_row_tie rfl ⟨rfl, rfl⟩ (by kernel_rfl) rfl checkSight_plain (by kernel_rfl)
end Go.Proofs.YthhpcjoaogmhbaaGreatDoor
end
section
namespace Go.Proofs.YthhpcjoaogmhbaaGreatDoor
end Go.Proofs.YthhpcjoaogmhbaaGreatDoor
end
