/- Joined by my own program, in build order: Bulk, Top, Shelf, Names, Slots, Slots2, Shape, Exprs, Stmts, MayS, Check, Index, OwnG, Names1, Once, Alike. -/
import Derived.Test.YtjciafpihdbedaaRows
import Derived.Test.YtjciafpihdbedaaH1
import Derived.Test.YtjciafpihdbedaaH2
import Derived.ProofKit
import Derived.OpenShut
import Derived.HandedShaped
import Derived.Deep.DeepHandedRow
import Derived.LaidLaws
import Derived.Shelf.Strings.Search1
import Derived.Shelf.Strings.Search2
import Derived.Shelf.Strings.Search3
import Derived.Shelf.LaysM
import Derived.Shelf.Strings.Shaped
import Derived.Test.YtjciafpihdbedaaProg
import Derived.WalkSpells
import Derived.Handy
import Derived.Lib.IndexAny
import Derived.Test.YtjciafpihdbedaaChecked
import Derived.WalkKit
import Derived.Laws.AppendOwn
import Derived.Deep.AppendLies
import Derived.OwnWalk
import Derived.Deep.OwnRows
import Derived.Maps.OwnOps
import Derived.Maps.OwnSet
import Derived.Maps.Ext
import Derived.Carry
set_option linter.unusedVariables false
set_option linter.unusedSimpArgs false
section
set_option linter.unusedVariables false
set_option linter.unusedSimpArgs false
namespace Go.Proofs.Ytjciafpihdbedaa
namespace V
open Go.RowKit
section
variable {H : Type} {enc : TypeId × Value → H} {w : World} {held : Bool}
theorem bulk_one (d : DataW H) : 1 ≤ Rows.uptoBulk d := by
  cases d with
  | lit l => cases l <;> simp [Rows.uptoBulk]
  | _ => simp [Rows.uptoBulk]
theorem bulk_mem {d : DataW H} {l : List (DataW H)} (h : d ∈ l) : Rows.uptoBulk d ≤ Rows.uptoBulkAll l := by
  induction l with
  | nil => cases h
  | cons x r ih =>
    simp only [Rows.uptoBulkAll]
    rcases List.mem_cons.1 h with rfl | e
    · omega
    · have := ih e; omega
theorem bulk_len (l : List (DataW H)) : l.length ≤ Rows.uptoBulkAll l := by
  induction l with
  | nil => simp [Rows.uptoBulkAll]
  | cons x r ih => have := bulk_one x; simp only [Rows.uptoBulkAll, List.length_cons]; omega
theorem cells_same {b off : Nat} {cs cs' : List Value} (h : cellsAt w b off cs) (k : ∀ i, i < cs'.length → w.cell? ⟨b, off + i, none⟩ = cs'[i]?) (hl : cs.length = cs'.length) : cs = cs' := by
  refine List.ext_getElem? fun i => ?_
  by_cases hi : i < cs.length
  · have h1 := cellsAt_get h i _ (List.getElem?_eq_getElem hi)
    have h2 := k i (by omega)
    rw [List.getElem?_eq_getElem hi, ← h2, ← h1]
  · rw [List.getElem?_eq_none (by omega), List.getElem?_eq_none (by omega)]
theorem slice_bulk {α : Type} {P : Go.Program} {t e : TypeId} {sz fuel : Nat} {v : Value} {x : DataW H × List MemPlace} {R : List Value → α → Prop} {J : Nat → Prop} {l : List α} (ht : P.underlying t = some (.slice e)) (hsz : P.cellsOf e = sz) (hpos : 0 < sz)
    (hlen : ∀ cs y, R cs y → cs.length = sz) (h : DataW.trod enc P w 0 (fun _ => true) held fuel t [v] = some x) (hR : RSl sz R w J v l) :
    l.length ≤ Rows.uptoBulk x.1 ∧ ∀ y ∈ l, ∃ n cs z, R cs y ∧ DataW.trod enc P w 0 (fun _ => true) held n e cs = some z ∧ Rows.uptoBulk z.1 ≤ Rows.uptoBulk x.1 := by
  obtain ⟨a, n, cap, rfl, hn, -, -, hel⟩ := hR
  rcases DataW.trod_slice ht h with ⟨e1, rfl⟩ | ⟨a', len, cap', elems, rest, m, -, e1, hxe, -, -, -, hlen', hall, -, -⟩
  · simp only [List.cons.injEq, Value.slice.injEq, and_true] at e1
    obtain ⟨-, rfl, -⟩ := e1
    obtain rfl : l = [] := List.length_eq_zero_iff.1 hn
    exact ⟨Nat.zero_le _, fun y hy => by cases hy⟩
  · simp only [List.cons.injEq, Value.slice.injEq, and_true] at e1
    obtain ⟨rfl, rfl, rfl⟩ := e1
    subst hxe
    have hb : Rows.uptoBulkAll (elems.map (·.1)) ≤ Rows.uptoBulk (DataW.slice (elems.map (·.1)) (rest.map (·.1))) := by simp only [Rows.uptoBulk]; omega
    refine ⟨?_, fun y hy => ?_⟩
    · refine Nat.le_trans ?_ hb
      have := bulk_len (elems.map (·.1))
      rw [List.length_map] at this
      omega
    · obtain ⟨i, hi⟩ := List.getElem?_of_mem hy
      have hil := (List.getElem?_eq_some_iff.1 hi).1
      obtain ⟨b, off, cs, ea, -, hc, hr⟩ := hel i y hi
      cases ea
      have h1 := hall i (by omega)
      rw [hsz] at h1
      have hz : ∃ z, elems[i]? = some z := ⟨elems[i]'(by omega), List.getElem?_eq_getElem (by omega)⟩
      obtain ⟨z, hz⟩ := hz
      rw [hz] at h1
      cases hcell : w.cells? 0 ((⟨b, off, none⟩ : Addr).add (i * sz)) sz with
      | none => rw [hcell] at h1; simp at h1
      | some cs' =>
        rw [hcell] at h1
        have h1' : DataW.trod enc P w 0 (fun _ => true) held m e cs' = some z := by simpa using h1
        obtain ⟨_, hlen2, hcs⟩ := World.cells?_some hcell
        have : cs = cs' := cells_same hc (fun j hj => by
          have := hcs j (by omega)
          rw [← this]
          congr 1
          have h3 : ∀ (o k : Nat), (⟨b, o, none⟩ : Addr).add k = ⟨b, o + k, none⟩ := fun o k => by
            unfold Addr.add
            by_cases hk : k = 0
            · subst hk; rfl
            · simp [hk]
          rw [h3, h3]) (by rw [hlen _ _ hr, hlen2])
        subst this
        exact ⟨m, cs, z, hr, h1', Nat.le_trans (bulk_mem (List.mem_map_of_mem (List.mem_of_getElem? hz))) hb⟩
theorem struct_bulk {P : Go.Program} {t : TypeId} {fl : List (TypeId × Nat)} {fuel : Nat} {cs : List Value} {x : DataW H × List MemPlace}
    (hf : (P.underlying t).map (fun d => match d with | .struct fs => fs.toList.map (fun f => (f.type, f.offset)) | _ => []) = some fl) (hne : fl ≠ [])
    (h : DataW.trod enc P w 0 (fun _ => true) held fuel t cs = some x) : ∀ k ∈ fl, ∃ n y, DataW.trod enc P w 0 (fun _ => true) held n k.1 ((cs.drop k.2).take (P.cellsOf k.1)) = some y ∧ Rows.uptoBulk y.1 ≤ Rows.uptoBulk x.1 := by
  cases hu : P.underlying t with
  | none => rw [hu] at hf; simp at hf
  | some d =>
    rw [hu] at hf
    simp only [Option.map_some, Option.some.injEq] at hf
    cases d with
    | struct fs =>
      simp only at hf
      obtain ⟨xs, n, hfu, hxe, hl, hlen, hall⟩ := DataW.trod_struct hu h
      intro k hk
      rw [← hf] at hk
      obtain ⟨f, hfm, rfl⟩ := List.mem_map.1 hk
      obtain ⟨i, hi⟩ := List.mem_iff_getElem?.1 hfm
      have hi' : fs[i]? = some f := by rw [← Array.getElem?_toList]; exact hi
      have := hall i f hi'
      have hlt : i < xs.length := by
        rw [hlen]
        exact (Array.getElem?_eq_some_iff.1 hi').1
      refine ⟨n, xs[i], by simpa [List.getElem?_eq_getElem hlt] using this, ?_⟩
      have h1 : xs[i].1 ∈ xs.map (·.1) := List.mem_map_of_mem (List.getElem_mem hlt)
      have h2 := bulk_mem h1
      subst hxe
      simp only [Rows.uptoBulk]
      omega
    | _ => simp only at hf; exact absurd hf.symm hne
theorem small_of {d fuel N : Nat} {cs : List Value} {x : DataW H × List MemPlace} {p : Program} (hp : RProgram d w (· < w.heap.size) (.agg cs.toArray) p) (h : DataW.trod enc Try.prog w 0 (fun _ => true) held fuel 25 cs = some x) (hN : Rows.uptoBulk x.1 ≤ N) :
    p.classes.length ≤ N ∧ ∀ c ∈ p.classes, c.fields.length ≤ N ∧ c.methods.length ≤ N ∧ ∀ m ∈ c.methods, m.params.length ≤ N := by
  obtain ⟨cv, mv, e1, h1, -⟩ := hp
  have e2 : cs = [cv, mv] := by simpa using congrArg Array.toList (Value.agg.inj e1)
  subst e2
  obtain ⟨n1, y1, k1, b1⟩ := struct_bulk fieldsProgram (by simp) h (22, 0) (by simp)
  rw [cellsOf_one _ c_classes _ _ _ rfl] at k1
  obtain ⟨l1, hall⟩ := slice_bulk Try.underlying22 c_class (by decide) (fun cs y hy => by obtain ⟨_, _, rfl, -⟩ := hy; rfl) k1 h1
  refine ⟨by omega, fun c hc => ?_⟩
  obtain ⟨n2, cs2, y2, hc2, k2, b2⟩ := hall c hc
  obtain ⟨fv, mv2, rfl, -, -, hf, hm⟩ := hc2
  obtain ⟨n3, y3, k3, b3⟩ := struct_bulk fieldsClass (by simp) k2 (34, 2) (by simp)
  obtain ⟨n4, y4, k4, b4⟩ := struct_bulk fieldsClass (by simp) k2 (35, 3) (by simp)
  rw [cellsOf_one _ c_slots _ _ _ rfl] at k3
  rw [cellsOf_one _ c_methods _ _ _ rfl] at k4
  obtain ⟨l3, -⟩ := slice_bulk Try.underlying34 c_slot (by decide) (fun cs y hy => by obtain ⟨rfl, -⟩ := hy; rfl) k3 hf
  obtain ⟨l4, hall4⟩ := slice_bulk Try.underlying35 c_method (by decide) (fun cs y hy => by obtain ⟨_, _, rfl, -⟩ := hy; rfl) k4 hm
  refine ⟨by omega, by omega, fun m hmm => ?_⟩
  obtain ⟨n5, cs5, y5, hc5, k5, b5⟩ := hall4 m hmm
  obtain ⟨pv, bv, rfl, -, -, hps, -⟩ := hc5
  obtain ⟨n6, y6, k6, b6⟩ := struct_bulk fieldsMethod (by simp) k5 (34, 2) (by simp)
  rw [cellsOf_one _ c_slots _ _ _ rfl] at k6
  obtain ⟨l6, -⟩ := slice_bulk Try.underlying34 c_slot (by decide) (fun cs y hy => by obtain ⟨rfl, -⟩ := hy; rfl) k6 hps
  omega
end
end V
end Go.Proofs.Ytjciafpihdbedaa
end
section
set_option linter.unusedSimpArgs false
namespace Go.Proofs.Ytjciafpihdbedaa
open Go.ChangeShapes Go.WideShapes Go.ChangeAt Go.RowKit
open Go.ChangeMaps (open_string shut_string)
set_option linter.unusedVariables false
theorem own : ownKnob Try.prog.godebug = none := by kernel_rfl
theorem laidOut : laidOutB Try.prog = true := by kernel_rfl
namespace V
theorem cok_top {f : FuncId} {args : List A} {r : A} {W : World} {vals : List Value} (h : COk Try.prog f args Mem.nil r) (hg : GlobOk W) (hv : ∀ B, RVl B W (fun b _ => b < W.heap.size) args vals) :
    Calls Try.prog f vals.toArray W fun e w' => ∃ v, e = .returned v ∧ Below W.heap.size W w' ∧ ∃ B I', RV B w' I' r v := by
  obtain ⟨-, -, h⟩ := h
  have hm : MR W (fun b _ => b < W.heap.size) (fun _ => undef) (fun b _ => b < W.heap.size) Mem.nil W :=
    ⟨Below.refl _ _, hg, fun _ _ h => h, fun _ _ h => .inl h, fun _ _ h => h, (fun _ _ h => by simp [Mem.nil] at h), (fun _ _ h => by simp [Mem.nil] at h), (fun _ _ _ _ h => by simp [Mem.nil] at h), (fun _ _ h => by simp [Mem.nil] at h)⟩
  refine (h Mem.nil (fun _ _ => rfl) W _ _ _ W vals hm (hv _)).mono ?_
  rintro e w' ⟨v, I', rfl, hb, -, -, hr⟩
  exact ⟨v, rfl, hb, _, _, hr⟩
theorem cok_true {f : FuncId} {args : List A} {W : World} {vals : List Value} (h : COk Try.prog f args Mem.nil (.c (.bool true))) (hg : GlobOk W) (hv : ∀ B, RVl B W (fun b _ => b < W.heap.size) args vals) :
    Calls Try.prog f vals.toArray W fun e w' => e = .returned (.bool true) ∧ Below W.heap.size W w' := by
  refine (cok_top h hg hv).mono ?_
  rintro e w' ⟨v, rfl, hb, B, I', hr⟩
  have hr : RC w' I' v (.bool true) := hr
  cases hr
  exact ⟨rfl, hb⟩
theorem rv_prog {B : Nat → Value} {W : World} {d : Nat} {v : Value} {p : Program} (h : RProgram d W (· < W.heap.size) v p) : RV B W (fun b _ => b < W.heap.size) (.agg (cProg p)) v :=
  prog_rcs (fun _ _ h => h) h
theorem rv_str {B : Nat → Value} {W : World} {s : ByteArray} (h : s.size ≤ maxS) : RV B W (fun b _ => b < W.heap.size) (.c (.str s)) (.string s) := RC.str h
end V
end Go.Proofs.Ytjciafpihdbedaa
end
section
namespace Go.Proofs
open Go.Shelf
def Try.lays144_ren : Go.Shelf.Ren := ⟨fun | 144 => 90 | 143 => 98 | 219 => 99 | 217 => 100 | 225 => 101 | 224 => 102 | 267 => 103 | 266 => 104 | 314 => 105 | n => n, fun | 9 => 9 | 4 => 4 | 3 => 3 | 5 => 5 | 46 => 113 | 146 => 115 | 51 => 114 | n => n, fun | 1 => 0 | n => n⟩
theorem Try.lays144 : Go.Proofs.Lays.n144 Try.prog Try.lays144_ren := {
  mixed := by kernel_rfl
  f143 := Try.func98.trans (congrArg some (by kernel_rfl))
  f144 := Try.func90.trans (congrArg some (by kernel_rfl))
  f217 := Try.func100.trans (congrArg some (by kernel_rfl))
  f219 := Try.func99.trans (congrArg some (by kernel_rfl))
  f224 := Try.func102.trans (congrArg some (by kernel_rfl))
  f225 := Try.func101.trans (congrArg some (by kernel_rfl))
  f266 := Try.func104.trans (congrArg some (by kernel_rfl))
  f267 := Try.func103.trans (congrArg some (by kernel_rfl))
  f314 := Try.func105.trans (congrArg some (by kernel_rfl))
  t3 := Try.underlying3
  a3 := Try.isAgg3
  z3 := Try.sizeOf3
  v3 := Try.zeroValue3
  t4 := Try.underlying4
  a4 := Try.isAgg4
  z4 := Try.sizeOf4
  v4 := Try.zeroValue4
  t5 := Try.underlying5
  a5 := Try.isAgg5
  z5 := Try.sizeOf5
  v5 := Try.zeroValue5
  t9 := Try.underlying9
  a9 := Try.isAgg9
  z9 := Try.sizeOf9
  v9 := Try.zeroValue9
  t46 := Try.underlying113
  a46 := Try.isAgg113
  z46 := Try.sizeOf113
  v46 := Try.zeroValue113
  t51 := Try.underlying114
  a51 := Try.isAgg114
  z51 := Try.sizeOf114
  v51 := Try.zeroValue114
  t146 := Try.underlying115
  a146 := Try.isAgg115
  z146 := Try.sizeOf115
  v146 := Try.zeroValue115
  g1 := by kernel_rfl }
open Go.RowKit Go.Lib in
theorem Try.strings_Contains_one (s : ByteArray) (c : UInt8) (w : World) :
    Calls Try.prog 90 #[.string s, .string ⟨#[c]⟩] w fun e w' => e = .returned (.bool (decide (0 ≤ Lib.indexByte s.data.toList c))) ∧ w' = w := Any.strings_Contains_one Try.lays144 s c w
open Go.RowKit Go.Lib in
theorem Try.strings_Contains (s sub : ByteArray) (m : Int) (w : World) (hs : s.size < 4294967281) (hm : w.cell? ⟨0, 0, none⟩ = some (.int .i64 m)) :
    Calls Try.prog 90 #[.string s, .string sub] w fun e w' => e = .returned (.bool (Lib.contains s.data.toList sub.data.toList)) ∧ w' = w := Any.strings_Contains Try.lays144 s sub m w hs hm
end Go.Proofs
end
section
namespace Go.Proofs.Ytjciafpihdbedaa
open Go.RowKit
def letterB (c : UInt8) : Bool := (97 ≤ c && c ≤ 122) || (65 ≤ c && c ≤ 90)
def digitB (c : UInt8) : Bool := 48 ≤ c && c ≤ 57
def withinB (c : UInt8) : Bool := letterB c || digitB c || c == 95
theorem digitB_iff (c : UInt8) : digitB c = decide (48 ≤ (c.toNat : Int) ∧ (c.toNat : Int) ≤ 57) := by
  rw [Bool.eq_iff_iff]; simp [digitB, UInt8.le_iff_toNat_le]; omega
theorem all_bytes {p : UInt8 → Prop} [DecidablePred p] (h : ∀ n : Fin 256, p (UInt8.ofNat n.val)) (c : UInt8) : p c := by
  have := h ⟨c.toNat, c.toNat_lt⟩
  simpa using this
theorem begins_eq (c : UInt8) : (decide (97 ≤ bits BinOp.or IntKind.u8 (c.toNat : Int) 32) && decide (bits BinOp.or IntKind.u8 (c.toNat : Int) 32 ≤ 122)) = letterB c :=
  all_bytes (p := fun c => (decide (97 ≤ bits BinOp.or IntKind.u8 (c.toNat : Int) 32) && decide (bits BinOp.or IntKind.u8 (c.toNat : Int) 32 ≤ 122)) = letterB c) (by decide +kernel) c
theorem ret_bool {a b : Bool} (h : a = b) : Ending.returned (.bool a) = .returned (.bool b) := by rw [h]
theorem begins_any (c : UInt8) (w : World) : Calls Try.prog 67 #[.int .u8 c.toNat] w fun e w' => e = .returned (.bool (letterB c)) ∧ w = w' := by
  have hq := Lib.hid (begins_eq c)
  go_enter Try.func67, Try.ntmps67
  go_wp2
  all_goals go_ret
  all_goals refine ⟨ret_bool ?_, rfl⟩
  all_goals rw [← hq.out]; simp [*]
  all_goals omega
theorem figure_any (c : UInt8) (w : World) : Calls Try.prog 89 #[.int .u8 c.toNat] w fun e w' => e = .returned (.bool (digitB c)) ∧ w = w' := by
  go_enter Try.func89, Try.ntmps89
  go_wp2
  all_goals go_ret
  all_goals refine ⟨ret_bool ?_, rfl⟩
  all_goals rw [digitB_iff, Bool.eq_iff_iff]; simp; omega
theorem goes_any (c : UInt8) (w : World) : Calls Try.prog 69 #[.int .u8 c.toNat] w fun e w' => e = .returned (.bool (withinB c)) ∧ w = w' := by
  go_enter Try.func69, Try.ntmps69
  go_wp2_with (first
    | (go_at_call 67; refine (begins_any _ _).mono ?_; rintro e w' ⟨rfl, rfl⟩)
    | (go_at_call 89; refine (figure_any _ _).mono ?_; rintro e w' ⟨rfl, rfl⟩))
  all_goals go_ret
  all_goals refine ⟨ret_bool ?_, rfl⟩
  all_goals simp_all [withinB]
  all_goals (rw [Bool.eq_iff_iff]; simp [← UInt8.toNat_inj]; omega)
theorem run_any (s : ByteArray) (hs : s.size ≤ maxS) (w : World) : Calls Try.prog 68 #[.string s, .func (.func 69) #[] #[]] w fun e w' => e = .returned (.int .i64 (s.data.toList.takeWhile withinB).length) ∧ w = w' := by
  unfold maxS at hs
  go_enter Try.func68, Try.ntmps68
  go_wp2
  go_loop [5] (fun v5 => ∃ k : Nat, k ≤ s.size ∧ v5 = .int .i64 k ∧ (s.data.toList.takeWhile withinB).length = k + ((s.data.toList.drop k).takeWhile withinB).length) (fun v5 => s.size - (intOf v5).toNat)
  case atStart => exact ⟨0, by omega, rfl, by simp⟩
  case round =>
    obtain ⟨k, hk, rfl, hq⟩ := hrel
    have HQ := Lib.hid hq
    clear hq
    by_cases hlt : k < s.size
    · have hd : s.data.toList.drop k = s[k] :: s.data.toList.drop (k + 1) := by
        rw [List.drop_eq_getElem_cons (by simpa using hlt)]; rfl
      have HD := Lib.hid hd
      clear hd
      go_wp2_with (go_at_call 69; refine (goes_any _ _).mono ?_; rintro e w' ⟨rfl, rfl⟩)
      · have hw : withinB s[k] = true := by assumption
        go_round
        case rel => exact ⟨k + 1, by omega, by go_num, by rw [HQ.out, HD.out, List.takeWhile_cons_of_pos hw]; simp; omega⟩
        case measure => simp [intOf]; omega
      · have hw : withinB s[k] = false := by assumption
        go_ret
        refine ⟨?_, rfl⟩
        rw [HQ.out, HD.out, List.takeWhile_cons_of_neg (by simp [hw])]; rfl
    · have hd : s.data.toList.drop k = [] := List.drop_of_length_le (by simpa using hlt)
      have HD := Lib.hid hd
      clear hd
      go_wp2
      go_ret
      refine ⟨?_, rfl⟩
      rw [HQ.out, HD.out]; rfl
def words : List (List UInt8) := [[99, 108, 97, 115, 115], [101, 120, 116, 101, 110, 100, 115], [105, 110, 116], [109, 97, 105, 110], [105, 102], [101, 108, 115, 101], [119, 104, 105, 108, 101], [112, 114, 105, 110, 116], [114, 101, 116, 117, 114, 110], [110, 117, 108, 108], [116, 104, 105, 115], [110, 101, 119], [114, 101, 97, 100], [100, 101, 99, 108, 97, 115, 115, 105, 102, 121], [108, 101, 110, 103, 116, 104]]
def isWordB (l : List UInt8) : Bool := words.contains l
def wordsText : List UInt8 := [32, 99, 108, 97, 115, 115, 32, 101, 120, 116, 101, 110, 100, 115, 32, 105, 110, 116, 32, 109, 97, 105, 110, 32, 105, 102, 32, 101, 108, 115, 101, 32, 119, 104, 105, 108, 101, 32, 112, 114, 105, 110, 116, 32, 114, 101, 116, 117, 114, 110, 32, 110, 117, 108, 108, 32, 116, 104, 105, 115, 32, 110, 101, 119, 32, 114, 101, 97, 100, 32, 100, 101, 99, 108, 97, 115, 115, 105, 102, 121, 32, 108, 101, 110, 103, 116, 104, 32]
theorem prefix_seg (l r : List UInt8) (hsp : 32 ∉ l) (h : (32 :: (l ++ [32])).isPrefixOf r = true) : r[0]? = some 32 ∧ l = (r.drop 1).takeWhile (· != 32) := by
  obtain ⟨t, rfl⟩ := List.isPrefixOf_iff_prefix.1 h
  refine ⟨rfl, ?_⟩
  simp only [List.cons_append, List.drop_succ_cons, List.drop_zero, List.append_assoc]
  rw [List.takeWhile_append_of_pos (by intro a ha; simp; rintro rfl; exact hsp ha)]
  simp
theorem segs_words : ∀ i, i < 89 → wordsText[i]? = some 32 → (wordsText.drop (i + 1)).takeWhile (· != 32) = [] ∨ (wordsText.drop (i + 1)).takeWhile (· != 32) ∈ words := by decide +kernel
theorem words_in : ∀ l ∈ words, Lib.contains wordsText (32 :: (l ++ [32])) = true := by decide +kernel
theorem words_blank : ∀ l ∈ words, 32 ∉ l := by decide +kernel
theorem contains_words (l : List UInt8) (hne : l ≠ []) (hsp : 32 ∉ l) : Lib.contains wordsText (32 :: (l ++ [32])) = isWordB l := by
  rw [Bool.eq_iff_iff]
  constructor
  · intro h
    rcases Lib.index_spec wordsText (32 :: (l ++ [32])) with ⟨h1, _⟩ | ⟨i, _, hi, hocc, _⟩
    · simp [Lib.contains, h1] at h
    · obtain ⟨h0, h1⟩ := prefix_seg l _ hsp hocc
      have hi' : i < 89 := by
        have : i ≤ wordsText.length := hi
        rcases Nat.lt_or_ge i 89 with h | h
        · exact h
        · have hl : wordsText.length = 88 := rfl
          omega
      have h2 : wordsText[i]? = some 32 := by simpa using h0
      rw [List.drop_drop] at h1
      rcases segs_words i hi' h2 with h | h
      · exact absurd (h1.trans h) hne
      · rw [← h1] at h; simpa [isWordB] using h
  · intro h
    exact words_in l (by simpa [isWordB] using h)
theorem indexByte_none (l : List UInt8) (c : UInt8) : (decide (0 ≤ Lib.indexByte l c)) = l.contains c := (Lib.contains_iff_indexByte l c).symm
theorem isWord_any (s : ByteArray) (hs : s.size ≤ 1000) (m : Int) (w : World) (hm : w.cell? ⟨0, 0, none⟩ = some (.int .i64 m)) :
    Calls Try.prog 70 #[.string s] w fun e w' => e = .returned (.bool (isWordB s.data.toList)) ∧ w = w' := by
  by_cases hne : s.toList = []
  · go_enter Try.func70, Try.ntmps70
    go_wp2
    go_ret
    refine ⟨ret_bool ?_, rfl⟩
    rw [← Lib.toList_data, hne]; rfl
  have HN : Hid (s.data.toList ≠ []) := by rw [← Lib.toList_data]; exact hne
  have hb : (!s.toList.isEmpty) = true := by simp [hne]
  by_cases hsp : 32 ∈ s.data.toList
  · have h1 : decide (0 ≤ Lib.indexByte s.data.toList 32) = true := by rw [indexByte_none]; exact List.contains_iff_mem.2 hsp
    have H2 : Hid (false = isWordB s.data.toList) := by
      cases hq : isWordB s.data.toList with
      | false => rfl
      | true => exact absurd hsp (words_blank _ (List.contains_iff_mem.1 hq))
    clear hsp
    go_enter Try.func70, Try.ntmps70
    go_wp2_with fail
    refine (Try.strings_Contains_one _ _ _).mono ?_
    rintro e w' ⟨rfl, rfl⟩
    go_wp2
    go_ret
    exact ⟨ret_bool H2.out, rfl⟩
  · have h1 : decide (0 ≤ Lib.indexByte s.data.toList 32) = false := by rw [indexByte_none, Bool.eq_false_iff]; exact fun h => hsp (List.contains_iff_mem.1 h)
    have H2 : Hid (Lib.contains wordsText (32 :: (s.data.toList ++ [32])) = isWordB s.data.toList) := contains_words _ HN.out hsp
    clear hsp
    go_enter Try.func70, Try.ntmps70
    go_wp2_with fail
    refine (Try.strings_Contains_one _ _ _).mono ?_
    rintro e w' ⟨rfl, rfl⟩
    go_wp2_with fail
    refine (Try.strings_Contains _ _ m _ ?_ hm).mono ?_
    · decide
    rintro e w' ⟨rfl, rfl⟩
    generalize hq : Lib.contains _ _ = q
    have H3 : Hid (q = isWordB s.data.toList) := by
      rw [← H2.out, ← hq]; congr 1
    clear hq
    go_wp2
    go_ret
    exact ⟨ret_bool H3.out, rfl⟩
def isNameB (s : ByteArray) : Bool := match s.data.toList with
  | [] => false
  | c :: r => decide ((c :: r).length ≤ 16) && letterB c && (c :: r).all withinB && !isWordB (c :: r)
theorem takeWhile_all {α : Type} (p : α → Bool) (l : List α) : ((l.takeWhile p).length = l.length) = (l.all p = true) := by
  induction l with
  | nil => simp
  | cons a l ih =>
    by_cases h : p a = true
    · simp [List.takeWhile_cons_of_pos h, h]; simpa using ih
    · simp [List.takeWhile_cons_of_neg h, h]
theorem isName_any (s : ByteArray) (hs : s.size ≤ maxS) (m : Int) (w : World) (hm : w.cell? ⟨0, 0, none⟩ = some (.int .i64 m)) :
    Calls Try.prog 42 #[.string s] w fun e w' => e = .returned (.bool (isNameB s)) ∧ w = w' := by
  by_cases h0 : s.data.toList = []
  · have h1 : s.toList = [] := by rw [Lib.toList_data]; exact h0
    have H2 : Hid (isNameB s = false) := by unfold isNameB; rw [h0]; rfl
    clear h0
    go_enter Try.func42, Try.ntmps42
    go_wp2
    go_ret
    exact ⟨ret_bool H2.out.symm, rfl⟩
  have h1 : (!s.toList.isEmpty) = true := by rw [Lib.toList_data]; simpa using h0
  have h1' : ¬ s.toList = [] := by rw [Lib.toList_data]; exact h0
  obtain ⟨c, r, hcr⟩ : ∃ c r, s.data.toList = c :: r := by
    cases h : s.data.toList with
    | nil => exact absurd h h0
    | cons c r => exact ⟨c, r, rfl⟩
  have hsz : s.size = r.length + 1 := by
    have : s.size = s.data.toList.length := by simp
    rw [this, hcr]; rfl
  have hpos : 0 < s.size := by omega
  have H2 : Hid (isNameB s = (decide ((c :: r).length ≤ 16) && letterB c && (c :: r).all withinB && !isWordB (c :: r))) := by unfold isNameB; rw [hcr]; rfl
  have hc0 : s[0] = c := by
    have h2 : s.data[0]? = some s[0] := by rw [Array.getElem?_eq_getElem (by simpa using hpos)]; rfl
    have : s.data.toList[0]? = some s[0] := by rw [Array.getElem?_toList]; exact h2
    rw [hcr] at this; simpa using this.symm
  have h3 : (((s.data.toList.takeWhile withinB).length : Int) == (s.size : Int)) = (c :: r).all withinB := by
    have h2 : s.size = s.data.toList.length := by simp
    have := takeWhile_all withinB s.data.toList
    rw [Bool.eq_iff_iff, ← hcr, ← this, h2]; simp only [beq_iff_eq]; omega
  have HSZ := Lib.hid hsz
  have HCR := Lib.hid hcr
  have HC0 := Lib.hid hc0
  generalize hall : (c :: r).all withinB = ball at *
  have HW : Hid (isWordB (c :: r) = isWordB s.data.toList) := by rw [HCR.out]; rfl
  have HL : Hid ((c :: r).length = s.size) := by rw [HSZ.out]; rfl
  clear h0 hcr hsz hc0 hall
  go_enter Try.func42, Try.ntmps42
  go_wp2_with (first
    | (go_at_call 67; rw [HC0.out]; refine (begins_any _ _).mono ?_; rintro e w' ⟨rfl, rfl⟩)
    | (go_at_call 68; refine (run_any _ hs _).mono ?_; rintro e w' ⟨rfl, rfl⟩)
    | (go_at_call 70; refine (isWord_any _ ?_ m _ hm).mono ?_; · omega
       rintro e w' ⟨rfl, rfl⟩))
  all_goals go_ret
  all_goals refine ⟨ret_bool ?_, rfl⟩
  all_goals rw [H2.out, HW.out, HL.out]
  all_goals simp_all
  all_goals omega
end Go.Proofs.Ytjciafpihdbedaa
end
section
namespace Go.Proofs.Ytjciafpihdbedaa
open Go.RowKit
def idxB {α : Type} (p : α → Bool) : List α → Int
  | [] => -1
  | x :: l => if p x then 0 else if idxB p l = -1 then -1 else idxB p l + 1
theorem idxB_ge {α : Type} (p : α → Bool) : ∀ l : List α, -1 ≤ idxB p l
  | [] => Int.le_refl _
  | x :: l => by have := idxB_ge p l; unfold idxB; split; omega; split <;> omega
theorem idxB_any {α : Type} (p : α → Bool) : ∀ l : List α, decide (0 ≤ idxB p l) = l.any p
  | [] => rfl
  | x :: l => by
    have h := idxB_any p l
    have h2 := idxB_ge p l
    unfold idxB
    by_cases hx : p x = true
    · simp [hx]
    · rw [if_neg hx, List.any_cons, ← h]
      simp only [hx, Bool.false_or]
      split
      · rename_i h3; rw [h3]
      · rename_i h3; rw [Bool.eq_iff_iff]; simp; omega
theorem idxB_hit {α : Type} (p : α → Bool) : ∀ (l : List α) (k : Nat) (x : α), l[k]? = some x → p x = true → (∀ y ∈ l.take k, p y = false) → idxB p l = k
  | [], k, x, h, _, _ => by simp at h
  | y :: l, 0, x, h, hp, _ => by simp at h; subst h; simp [idxB, hp]
  | y :: l, k + 1, x, h, hp, hno => by
    have hy := hno y (by simp)
    have := idxB_hit p l k x (by simpa using h) hp (fun z hz => hno z (by simp [hz]))
    unfold idxB
    rw [if_neg (by simp [hy]), if_neg (by omega), this]; simp
theorem idxB_none {α : Type} (p : α → Bool) : ∀ (l : List α), (∀ y ∈ l, p y = false) → idxB p l = -1
  | [], _ => rfl
  | y :: l, hno => by
    have hy := hno y (by simp)
    unfold idxB
    rw [if_neg (by simp [hy]), if_pos (idxB_none p l fun z hz => hno z (by simp [hz]))]
theorem indexSlots_any {α : Type} (R : List Value → α → Prop) (l : List α) (p : α → Bool) (g : FuncId) (v : Value) (w : World) (hg : ∀ args W, (callFunc g args).run Try.prog W = .ok (.enter g args) W) (hlen : ∀ cs x, R cs x → cs.length = 2) (hv : RSl 2 R w (· < w.heap.size) v l)
    (HF : Hid (∀ (W : World) cs x, Below w.heap.size w W → x ∈ l → R cs x → Calls Try.prog g #[.agg cs.toArray] W fun e w' => e = .returned (.bool (p x)) ∧ Below W.heap.size W w')) :
    Calls Try.prog 91 #[v, .func (.func g) #[] #[]] w fun e w' => e = .returned (.int .i64 (idxB p l)) ∧ Below w.heap.size w w' := by
  obtain ⟨a, n, cap, rfl, hn, hcap, hmax, hel⟩ := hv
  have H := Lib.hid hel
  have HN := Lib.hid hn
  have HL := Lib.hid hlen
  unfold maxC at hmax
  clear hel hn hlen
  go_enter Try.func91, Try.ntmps91
  go_wp2
  go_loopw [8] (fun v8 w' => ∃ j : Nat, j ≤ n ∧ v8 = .int .i64 j ∧ Hid (∀ y ∈ l.take j, p y = false) ∧ Hid (Below w.heap.size w w')) (fun v8 _ => n - (intOf v8).toNat)
  case atStart => exact ⟨0, by omega, rfl, (by show ∀ y ∈ l.take 0, p y = false; simp), Below.refl _ _⟩
  case round =>
    obtain ⟨j, hj, rfl, HP, HB⟩ := hrel
    by_cases hlt : j < n
    · obtain ⟨x, hx⟩ : ∃ x, l[j]? = some x := ⟨_, List.getElem?_eq_getElem (by rw [HN.out]; exact hlt)⟩
      have HX := Lib.hid hx
      clear hx
      obtain ⟨b, off, cs, rfl, hbl, hc, hr⟩ := H.out j _ HX.out
      obtain ⟨u0, u1, rfl⟩ := len2 (HL.out _ _ hr)
      have HR := Lib.hid hr
      have HC := cellsAt_of_block (HB.out.block b hbl) hc
      simp only [cellsAt, and_true] at HC
      obtain ⟨c0, c1⟩ := HC
      clear hc hr
      go_wp2_with fail
      refine (HF.out _ _ _ HB.out (List.mem_of_getElem? HX.out) HR.out).mono ?_
      rintro e w1 ⟨rfl, hb1⟩
      have HB1 : Hid (Below w.heap.size w w1) := HB.out.trans (hb1.mono HB.out.size)
      clear hb1
      cases hp : p x with
      | true =>
        go_wp2
        go_ret
        exact ⟨by rw [idxB_hit p l j x HX.out hp HP.out]; rfl, HB1.out⟩
      | false =>
        go_wp2
        refine ⟨⟨j + 1, by omega, by go_num, ?_, HB1⟩, by simp [intOf]; omega⟩
        show ∀ y ∈ l.take (j + 1), p y = false
        rw [List.take_add_one, HX.out]
        intro y hy
        simp only [Option.toList_some, List.mem_append, List.mem_singleton] at hy
        rcases hy with hy | rfl
        · exact HP.out y hy
        · exact hp
    · obtain rfl : j = n := by omega
      have et := List.take_of_length_le (l := l) (i := j) (by rw [HN.out]; exact Nat.le_refl _)
      have HE : Hid (idxB p l = -1) := idxB_none p l (by have := HP.out; rw [et] at this; exact this)
      clear et
      go_wp2
      go_ret
      exact ⟨by rw [HE.out]; rfl, HB.out⟩
theorem indexExprs_any {α : Type} (R : List Value → α → Prop) (l : List α) (p : α → Bool) (g : FuncId) (v : Value) (w : World) (hg : ∀ args W, (callFunc g args).run Try.prog W = .ok (.enter g args) W) (hlen : ∀ cs x, R cs x → cs.length = 4) (hv : RSl 4 R w (· < w.heap.size) v l)
    (HF : Hid (∀ (W : World) cs x, Below w.heap.size w W → x ∈ l → R cs x → Calls Try.prog g #[.agg cs.toArray] W fun e w' => e = .returned (.bool (p x)) ∧ Below W.heap.size W w')) :
    Calls Try.prog 95 #[v, .func (.func g) #[] #[]] w fun e w' => e = .returned (.int .i64 (idxB p l)) ∧ Below w.heap.size w w' := by
  obtain ⟨a, n, cap, rfl, hn, hcap, hmax, hel⟩ := hv
  have H := Lib.hid hel
  have HN := Lib.hid hn
  have HL := Lib.hid hlen
  unfold maxC at hmax
  clear hel hn hlen
  go_enter Try.func95, Try.ntmps95
  go_wp2
  go_loopw [8] (fun v8 w' => ∃ j : Nat, j ≤ n ∧ v8 = .int .i64 j ∧ Hid (∀ y ∈ l.take j, p y = false) ∧ Hid (Below w.heap.size w w')) (fun v8 _ => n - (intOf v8).toNat)
  case atStart => exact ⟨0, by omega, rfl, (by show ∀ y ∈ l.take 0, p y = false; simp), Below.refl _ _⟩
  case round =>
    obtain ⟨j, hj, rfl, HP, HB⟩ := hrel
    by_cases hlt : j < n
    · obtain ⟨x, hx⟩ : ∃ x, l[j]? = some x := ⟨_, List.getElem?_eq_getElem (by rw [HN.out]; exact hlt)⟩
      have HX := Lib.hid hx
      clear hx
      obtain ⟨b, off, cs, rfl, hbl, hc, hr⟩ := H.out j _ HX.out
      obtain ⟨u0, u1, u2, u3, rfl⟩ := len4 (HL.out _ _ hr)
      have HR := Lib.hid hr
      have HC := cellsAt_of_block (HB.out.block b hbl) hc
      simp only [cellsAt, and_true] at HC
      obtain ⟨c0, c1, c2, c3⟩ := HC
      clear hc hr
      go_wp2_with fail
      refine (HF.out _ _ _ HB.out (List.mem_of_getElem? HX.out) HR.out).mono ?_
      rintro e w1 ⟨rfl, hb1⟩
      have HB1 : Hid (Below w.heap.size w w1) := HB.out.trans (hb1.mono HB.out.size)
      clear hb1
      cases hp : p x with
      | true =>
        go_wp2
        go_ret
        exact ⟨by rw [idxB_hit p l j x HX.out hp HP.out]; rfl, HB1.out⟩
      | false =>
        go_wp2
        refine ⟨⟨j + 1, by omega, by go_num, ?_, HB1⟩, by simp [intOf]; omega⟩
        show ∀ y ∈ l.take (j + 1), p y = false
        rw [List.take_add_one, HX.out]
        intro y hy
        simp only [Option.toList_some, List.mem_append, List.mem_singleton] at hy
        rcases hy with hy | rfl
        · exact HP.out y hy
        · exact hp
    · obtain rfl : j = n := by omega
      have et := List.take_of_length_le (l := l) (i := j) (by rw [HN.out]; exact Nat.le_refl _)
      have HE : Hid (idxB p l = -1) := idxB_none p l (by have := HP.out; rw [et] at this; exact this)
      clear et
      go_wp2
      go_ret
      exact ⟨by rw [HE.out]; rfl, HB.out⟩
theorem indexStmts_any {α : Type} (R : List Value → α → Prop) (l : List α) (p : α → Bool) (g : FuncId) (v : Value) (w : World) (hg : ∀ args W, (callFunc g args).run Try.prog W = .ok (.enter g args) W) (hlen : ∀ cs x, R cs x → cs.length = 7) (hv : RSl 7 R w (· < w.heap.size) v l)
    (HF : Hid (∀ (W : World) cs x, Below w.heap.size w W → x ∈ l → R cs x → Calls Try.prog g #[.agg cs.toArray] W fun e w' => e = .returned (.bool (p x)) ∧ Below W.heap.size W w')) :
    Calls Try.prog 82 #[v, .func (.func g) #[] #[]] w fun e w' => e = .returned (.int .i64 (idxB p l)) ∧ Below w.heap.size w w' := by
  obtain ⟨a, n, cap, rfl, hn, hcap, hmax, hel⟩ := hv
  have H := Lib.hid hel
  have HN := Lib.hid hn
  have HL := Lib.hid hlen
  unfold maxC at hmax
  clear hel hn hlen
  go_enter Try.func82, Try.ntmps82
  go_wp2
  go_loopw [8] (fun v8 w' => ∃ j : Nat, j ≤ n ∧ v8 = .int .i64 j ∧ Hid (∀ y ∈ l.take j, p y = false) ∧ Hid (Below w.heap.size w w')) (fun v8 _ => n - (intOf v8).toNat)
  case atStart => exact ⟨0, by omega, rfl, (by show ∀ y ∈ l.take 0, p y = false; simp), Below.refl _ _⟩
  case round =>
    obtain ⟨j, hj, rfl, HP, HB⟩ := hrel
    by_cases hlt : j < n
    · obtain ⟨x, hx⟩ : ∃ x, l[j]? = some x := ⟨_, List.getElem?_eq_getElem (by rw [HN.out]; exact hlt)⟩
      have HX := Lib.hid hx
      clear hx
      obtain ⟨b, off, cs, rfl, hbl, hc, hr⟩ := H.out j _ HX.out
      obtain ⟨u0, u1, u2, u3, u4, u5, u6, rfl⟩ := len7 (HL.out _ _ hr)
      have HR := Lib.hid hr
      have HC := cellsAt_of_block (HB.out.block b hbl) hc
      simp only [cellsAt, and_true] at HC
      obtain ⟨c0, c1, c2, c3, c4, c5, c6⟩ := HC
      clear hc hr
      go_wp2_with fail
      refine (HF.out _ _ _ HB.out (List.mem_of_getElem? HX.out) HR.out).mono ?_
      rintro e w1 ⟨rfl, hb1⟩
      have HB1 : Hid (Below w.heap.size w w1) := HB.out.trans (hb1.mono HB.out.size)
      clear hb1
      cases hp : p x with
      | true =>
        go_wp2
        go_ret
        exact ⟨by rw [idxB_hit p l j x HX.out hp HP.out]; rfl, HB1.out⟩
      | false =>
        go_wp2
        refine ⟨⟨j + 1, by omega, by go_num, ?_, HB1⟩, by simp [intOf]; omega⟩
        show ∀ y ∈ l.take (j + 1), p y = false
        rw [List.take_add_one, HX.out]
        intro y hy
        simp only [Option.toList_some, List.mem_append, List.mem_singleton] at hy
        rcases hy with hy | rfl
        · exact HP.out y hy
        · exact hp
    · obtain rfl : j = n := by omega
      have et := List.take_of_length_le (l := l) (i := j) (by rw [HN.out]; exact Nat.le_refl _)
      have HE : Hid (idxB p l = -1) := idxB_none p l (by have := HP.out; rw [et] at this; exact this)
      clear et
      go_wp2
      go_ret
      exact ⟨by rw [HE.out]; rfl, HB.out⟩
theorem containsSlots_any {α : Type} (R : List Value → α → Prop) (l : List α) (p : α → Bool) (g : FuncId) (v : Value) (w : World) (hg : ∀ args W, (callFunc g args).run Try.prog W = .ok (.enter g args) W) (hlen : ∀ cs x, R cs x → cs.length = 2) (hv : RSl 2 R w (· < w.heap.size) v l)
    (HF : Hid (∀ (W : World) cs x, Below w.heap.size w W → x ∈ l → R cs x → Calls Try.prog g #[.agg cs.toArray] W fun e w' => e = .returned (.bool (p x)) ∧ Below W.heap.size W w')) :
    Calls Try.prog 71 #[v, .func (.func g) #[] #[]] w fun e w' => e = .returned (.bool (l.any p)) ∧ Below w.heap.size w w' := by
  have HL := Lib.hid hlen
  have HV := Lib.hid hv
  clear hlen hv
  have HG := Lib.hid hg
  clear hg
  go_enter Try.func71, Try.ntmps71
  go_wp2_with fail
  refine (indexSlots_any R l p g v w HG.out HL.out HV.out HF).mono ?_
  rintro e w' ⟨rfl, hb⟩
  have HB := Lib.hid hb
  clear hb
  go_wp2
  go_ret
  exact ⟨by rw [← idxB_any]; rfl, HB.out⟩
theorem containsExprs_any {α : Type} (R : List Value → α → Prop) (l : List α) (p : α → Bool) (g : FuncId) (v : Value) (w : World) (hg : ∀ args W, (callFunc g args).run Try.prog W = .ok (.enter g args) W) (hlen : ∀ cs x, R cs x → cs.length = 4) (hv : RSl 4 R w (· < w.heap.size) v l)
    (HF : Hid (∀ (W : World) cs x, Below w.heap.size w W → x ∈ l → R cs x → Calls Try.prog g #[.agg cs.toArray] W fun e w' => e = .returned (.bool (p x)) ∧ Below W.heap.size W w')) :
    Calls Try.prog 86 #[v, .func (.func g) #[] #[]] w fun e w' => e = .returned (.bool (l.any p)) ∧ Below w.heap.size w w' := by
  have HL := Lib.hid hlen
  have HV := Lib.hid hv
  clear hlen hv
  have HG := Lib.hid hg
  clear hg
  go_enter Try.func86, Try.ntmps86
  go_wp2_with fail
  refine (indexExprs_any R l p g v w HG.out HL.out HV.out HF).mono ?_
  rintro e w' ⟨rfl, hb⟩
  have HB := Lib.hid hb
  clear hb
  go_wp2
  go_ret
  exact ⟨by rw [← idxB_any]; rfl, HB.out⟩
theorem containsStmts_any {α : Type} (R : List Value → α → Prop) (l : List α) (p : α → Bool) (g : FuncId) (v : Value) (w : World) (hg : ∀ args W, (callFunc g args).run Try.prog W = .ok (.enter g args) W) (hlen : ∀ cs x, R cs x → cs.length = 7) (hv : RSl 7 R w (· < w.heap.size) v l)
    (HF : Hid (∀ (W : World) cs x, Below w.heap.size w W → x ∈ l → R cs x → Calls Try.prog g #[.agg cs.toArray] W fun e w' => e = .returned (.bool (p x)) ∧ Below W.heap.size W w')) :
    Calls Try.prog 64 #[v, .func (.func g) #[] #[]] w fun e w' => e = .returned (.bool (l.any p)) ∧ Below w.heap.size w w' := by
  have HL := Lib.hid hlen
  have HV := Lib.hid hv
  clear hlen hv
  have HG := Lib.hid hg
  clear hg
  go_enter Try.func64, Try.ntmps64
  go_wp2_with fail
  refine (indexStmts_any R l p g v w HG.out HL.out HV.out HF).mono ?_
  rintro e w' ⟨rfl, hb⟩
  have HB := Lib.hid hb
  clear hb
  go_wp2
  go_ret
  exact ⟨by rw [← idxB_any]; rfl, HB.out⟩
end Go.Proofs.Ytjciafpihdbedaa
end
section
namespace Go.Proofs.Ytjciafpihdbedaa
open Go.RowKit
def isTypeB (s : ByteArray) : Bool := s.data.toList == [105, 110, 116] || s.data.toList == [105, 110, 116, 91, 93] || isNameB s
def slotB (x : Slot) : Bool := isTypeB x.type && isNameB x.name
def HasMax (w : World) : Prop := ∃ m, w.cell? ⟨0, 0, none⟩ = some (.int .i64 m)
theorem HasMax.keep {w w' : World} (h : HasMax w) (hb : Below w.heap.size w w') : HasMax w' :=
  let ⟨m, hm⟩ := h
  ⟨m, (hb.cell (p := ⟨0, 0, none⟩) (cell_lt hm)).trans hm⟩
theorem name_in {w : World} (hM : HasMax w) (s : ByteArray) (hs : s.size ≤ maxS) : Calls Try.prog 42 #[.string s] w fun e w' => e = .returned (.bool (isNameB s)) ∧ w = w' :=
  let ⟨m, hm⟩ := hM
  isName_any s hs m w hm
theorem typ_any (s : ByteArray) (hs : s.size ≤ maxS) (w : World) (hM : HasMax w) : Calls Try.prog 73 #[.string s] w fun e w' => e = .returned (.bool (isTypeB s)) ∧ w = w' := by
  cases h1 : s.data.toList == [105, 110, 116] with
  | true =>
    have k1 : (s.toList == [105, 110, 116]) = true := by rw [Lib.toList_data]; exact h1
    have H := Lib.hid (show isTypeB s = true by simp only [isTypeB, h1]; rfl)
    clear h1
    go_enter Try.func73, Try.ntmps73
    go_wp2
    go_ret
    exact ⟨ret_bool H.out.symm, rfl⟩
  | false =>
    cases h2 : s.data.toList == [105, 110, 116, 91, 93] with
    | true =>
      have k1 : (s.toList == [105, 110, 116]) = false := by rw [Lib.toList_data]; exact h1
      have k2 : (s.toList == [105, 110, 116, 91, 93]) = true := by rw [Lib.toList_data]; exact h2
      have H := Lib.hid (show isTypeB s = true by simp only [isTypeB, h1, h2]; rfl)
      clear h1 h2
      go_enter Try.func73, Try.ntmps73
      go_wp2
      go_ret
      exact ⟨ret_bool H.out.symm, rfl⟩
    | false =>
      have k1 : (s.toList == [105, 110, 116]) = false := by rw [Lib.toList_data]; exact h1
      have k2 : (s.toList == [105, 110, 116, 91, 93]) = false := by rw [Lib.toList_data]; exact h2
      have H := Lib.hid (show isTypeB s = isNameB s by simp only [isTypeB, h1, h2, Bool.false_or])
      clear h1 h2
      go_enter Try.func73, Try.ntmps73
      go_wp2_with fail
      refine (name_in hM s hs).mono ?_
      rintro e w' ⟨rfl, rfl⟩
      go_wp2
      all_goals go_ret
      all_goals exact ⟨ret_bool H.out.symm, rfl⟩
theorem slot_any (a b : ByteArray) (ha : a.size ≤ maxS) (hb : b.size ≤ maxS) (w : World) (hM : HasMax w) :
    Calls Try.prog 44 #[.agg #[.string a, .string b]] w fun e w' => e = .returned (.bool (slotB ⟨a, b⟩)) ∧ Below w.heap.size w w' := by
  have HM := Lib.hid hM
  clear hM
  go_enter Try.func44, Try.ntmps44
  go_wp2_with fail
  refine (typ_any _ ha _ (HM.out.keep (by go_grown))).mono ?_
  rintro e w' ⟨rfl, rfl⟩
  cases h1 : isTypeB a with
  | false =>
    go_wp2
    go_ret
    exact ⟨ret_bool (by simp [slotB, h1]), by go_grown⟩
  | true =>
    go_wp2_with fail
    refine (name_in (HM.out.keep (by go_grown)) _ hb).mono ?_
    rintro e w' ⟨rfl, rfl⟩
    go_wp2
    all_goals go_ret
    all_goals exact ⟨ret_bool (by simp [slotB, h1]), by go_grown⟩
theorem slots1_any (a b : ByteArray) (ha : a.size ≤ maxS) (hb : b.size ≤ maxS) (w : World) (hM : HasMax w) :
    Calls Try.prog 72 #[.agg #[.string a, .string b]] w fun e w' => e = .returned (.bool (!slotB ⟨a, b⟩)) ∧ Below w.heap.size w w' := by
  have HM := Lib.hid hM
  clear hM
  go_enter Try.func72, Try.ntmps72
  go_wp2_with fail
  refine (slot_any _ _ ha hb _ (HM.out.keep (by go_grown))).mono ?_
  rintro e w' ⟨rfl, hb⟩
  have HB : Hid (Below w.heap.size w w') := afterCall (by go_grown) hb
  clear hb
  go_wp2
  go_ret
  exact ⟨rfl, HB.out⟩
theorem slots_any (w : World) (hM : HasMax w) (v : Value) (l : List Slot) (h : RSlots w (· < w.heap.size) v l) :
    Calls Try.prog 43 #[v] w fun e w' => e = .returned (.bool (l.all slotB)) ∧ Below w.heap.size w w' := by
  have HM := Lib.hid hM
  have H := Lib.hid h
  clear hM h
  have hg : ∀ args W, (callFunc 72 args).run Try.prog W = .ok (.enter 72 args) W := fun _ _ => by kernel_rfl
  go_enter Try.func43, Try.ntmps43
  go_wp2_with fail
  refine (containsSlots_any RSlot l (fun x => !slotB x) 72 v w hg (fun cs x hx => by rw [hx.1]; rfl) H.out ?_).mono ?_
  · intro W cs x hb _ hx
    obtain ⟨rfl, ha, hb'⟩ := hx
    exact slots1_any _ _ ha hb' W (HM.out.keep hb)
  rintro e w' ⟨rfl, hb⟩
  have HB := Lib.hid hb
  clear hb
  go_wp2
  go_ret
  refine ⟨ret_bool ?_, HB.out⟩
  rw [List.all_eq_not_any_not]
end Go.Proofs.Ytjciafpihdbedaa
end
section
namespace Go.Proofs.Ytjciafpihdbedaa
open Go.RowKit
structure Shape where
  least : Int
  most : Int
  name : Bool
  num : Int
  level : Int
  sign : ByteArray
def Shape.val (s : Shape) : Value := .agg #[.int .i64 s.least, .int .i64 s.most, .bool s.name, .int .i64 s.num, .int .i64 s.level, .string s.sign]
theorem of_1 (w : World) : Calls Try.prog 96 #[.int .i64 1] w fun e w' => e = .returned (.tuple #[Shape.val ⟨0, 0, false, 9223372036854775807, 4, ⟨#[]⟩⟩, .bool true]) ∧ Below w.heap.size w w' := by
  go_enter Try.func96, Try.ntmps96
  go_wp2
  skip
  go_returns
  exact ⟨rfl, by go_grown⟩
theorem of_2 (w : World) : Calls Try.prog 96 #[.int .i64 2] w fun e w' => e = .returned (.tuple #[Shape.val ⟨0, 0, false, 0, 4, ⟨#[]⟩⟩, .bool true]) ∧ Below w.heap.size w w' := by
  go_enter Try.func96, Try.ntmps96
  go_wp2
  skip
  go_returns
  exact ⟨rfl, by go_grown⟩
theorem of_3 (w : World) : Calls Try.prog 96 #[.int .i64 3] w fun e w' => e = .returned (.tuple #[Shape.val ⟨0, 0, false, 0, 4, ⟨#[]⟩⟩, .bool true]) ∧ Below w.heap.size w w' := by
  go_enter Try.func96, Try.ntmps96
  go_wp2
  skip
  go_returns
  exact ⟨rfl, by go_grown⟩
theorem of_4 (w : World) : Calls Try.prog 96 #[.int .i64 4] w fun e w' => e = .returned (.tuple #[Shape.val ⟨0, 0, true, 0, 4, ⟨#[]⟩⟩, .bool true]) ∧ Below w.heap.size w w' := by
  go_enter Try.func96, Try.ntmps96
  go_wp2
  skip
  go_returns
  exact ⟨rfl, by go_grown⟩
theorem of_5 (w : World) : Calls Try.prog 96 #[.int .i64 5] w fun e w' => e = .returned (.tuple #[Shape.val ⟨0, 0, true, 0, 4, ⟨#[]⟩⟩, .bool true]) ∧ Below w.heap.size w w' := by
  go_enter Try.func96, Try.ntmps96
  go_wp2
  skip
  go_returns
  exact ⟨rfl, by go_grown⟩
theorem of_6 (w : World) : Calls Try.prog 96 #[.int .i64 6] w fun e w' => e = .returned (.tuple #[Shape.val ⟨1, 1, false, 0, 4, ⟨#[]⟩⟩, .bool true]) ∧ Below w.heap.size w w' := by
  go_enter Try.func96, Try.ntmps96
  go_wp2
  skip
  go_returns
  exact ⟨rfl, by go_grown⟩
theorem of_7 (w : World) : Calls Try.prog 96 #[.int .i64 7] w fun e w' => e = .returned (.tuple #[Shape.val ⟨1, 1, true, 0, 4, ⟨#[]⟩⟩, .bool true]) ∧ Below w.heap.size w w' := by
  go_enter Try.func96, Try.ntmps96
  go_wp2
  skip
  go_returns
  exact ⟨rfl, by go_grown⟩
theorem of_8 (w : World) : Calls Try.prog 96 #[.int .i64 8] w fun e w' => e = .returned (.tuple #[Shape.val ⟨2, 2, false, 0, 4, ⟨#[]⟩⟩, .bool true]) ∧ Below w.heap.size w w' := by
  go_enter Try.func96, Try.ntmps96
  go_wp2
  skip
  go_returns
  exact ⟨rfl, by go_grown⟩
theorem of_9 (w : World) : Calls Try.prog 96 #[.int .i64 9] w fun e w' => e = .returned (.tuple #[Shape.val ⟨1, 1, false, 0, 4, ⟨#[]⟩⟩, .bool true]) ∧ Below w.heap.size w w' := by
  go_enter Try.func96, Try.ntmps96
  go_wp2
  skip
  go_returns
  exact ⟨rfl, by go_grown⟩
theorem of_10 (w : World) : Calls Try.prog 96 #[.int .i64 10] w fun e w' => e = .returned (.tuple #[Shape.val ⟨1, 5, true, 0, 4, ⟨#[]⟩⟩, .bool true]) ∧ Below w.heap.size w w' := by
  go_enter Try.func96, Try.ntmps96
  go_wp2
  skip
  go_returns
  exact ⟨rfl, by go_grown⟩
theorem of_11 (w : World) : Calls Try.prog 96 #[.int .i64 11] w fun e w' => e = .returned (.tuple #[Shape.val ⟨0, 0, false, 99, 4, ⟨#[]⟩⟩, .bool true]) ∧ Below w.heap.size w w' := by
  go_enter Try.func96, Try.ntmps96
  go_wp2
  skip
  go_returns
  exact ⟨rfl, by go_grown⟩
theorem of_12 (w : World) : Calls Try.prog 96 #[.int .i64 12] w fun e w' => e = .returned (.tuple #[Shape.val ⟨1, 1, false, 0, 4, ⟨#[]⟩⟩, .bool true]) ∧ Below w.heap.size w w' := by
  go_enter Try.func96, Try.ntmps96
  go_wp2
  skip
  go_returns
  exact ⟨rfl, by go_grown⟩
theorem of_13 (w : World) : Calls Try.prog 96 #[.int .i64 13] w fun e w' => e = .returned (.tuple #[Shape.val ⟨2, 2, false, 0, 2, ⟨#[32, 43, 32]⟩⟩, .bool true]) ∧ Below w.heap.size w w' := by
  go_enter Try.func96, Try.ntmps96
  go_wp2
  (go_region; go_wp2)
  go_returns
  exact ⟨rfl, by go_grown⟩
theorem of_14 (w : World) : Calls Try.prog 96 #[.int .i64 14] w fun e w' => e = .returned (.tuple #[Shape.val ⟨2, 2, false, 0, 2, ⟨#[32, 45, 32]⟩⟩, .bool true]) ∧ Below w.heap.size w w' := by
  go_enter Try.func96, Try.ntmps96
  go_wp2
  (go_region; go_wp2)
  go_returns
  exact ⟨rfl, by go_grown⟩
theorem of_15 (w : World) : Calls Try.prog 96 #[.int .i64 15] w fun e w' => e = .returned (.tuple #[Shape.val ⟨2, 2, false, 0, 3, ⟨#[32, 42, 32]⟩⟩, .bool true]) ∧ Below w.heap.size w w' := by
  go_enter Try.func96, Try.ntmps96
  go_wp2
  (go_region; go_wp2)
  go_returns
  exact ⟨rfl, by go_grown⟩
theorem of_16 (w : World) : Calls Try.prog 96 #[.int .i64 16] w fun e w' => e = .returned (.tuple #[Shape.val ⟨2, 2, false, 0, 3, ⟨#[32, 47, 32]⟩⟩, .bool true]) ∧ Below w.heap.size w w' := by
  go_enter Try.func96, Try.ntmps96
  go_wp2
  (go_region; go_wp2)
  go_returns
  exact ⟨rfl, by go_grown⟩
theorem of_17 (w : World) : Calls Try.prog 96 #[.int .i64 17] w fun e w' => e = .returned (.tuple #[Shape.val ⟨2, 2, false, 0, 1, ⟨#[32, 60, 32]⟩⟩, .bool true]) ∧ Below w.heap.size w w' := by
  go_enter Try.func96, Try.ntmps96
  go_wp2
  (go_region; go_wp2)
  go_returns
  exact ⟨rfl, by go_grown⟩
theorem of_18 (w : World) : Calls Try.prog 96 #[.int .i64 18] w fun e w' => e = .returned (.tuple #[Shape.val ⟨2, 2, false, 0, 1, ⟨#[32, 61, 61, 32]⟩⟩, .bool true]) ∧ Below w.heap.size w w' := by
  go_enter Try.func96, Try.ntmps96
  go_wp2
  (go_region; go_wp2)
  go_returns
  exact ⟨rfl, by go_grown⟩
def shapes : List Shape := [
  ⟨0, 0, false, 9223372036854775807, 4, ⟨#[]⟩⟩,
  ⟨0, 0, false, 0, 4, ⟨#[]⟩⟩,
  ⟨0, 0, false, 0, 4, ⟨#[]⟩⟩,
  ⟨0, 0, true, 0, 4, ⟨#[]⟩⟩,
  ⟨0, 0, true, 0, 4, ⟨#[]⟩⟩,
  ⟨1, 1, false, 0, 4, ⟨#[]⟩⟩,
  ⟨1, 1, true, 0, 4, ⟨#[]⟩⟩,
  ⟨2, 2, false, 0, 4, ⟨#[]⟩⟩,
  ⟨1, 1, false, 0, 4, ⟨#[]⟩⟩,
  ⟨1, 5, true, 0, 4, ⟨#[]⟩⟩,
  ⟨0, 0, false, 99, 4, ⟨#[]⟩⟩,
  ⟨1, 1, false, 0, 4, ⟨#[]⟩⟩,
  ⟨2, 2, false, 0, 2, ⟨#[32, 43, 32]⟩⟩,
  ⟨2, 2, false, 0, 2, ⟨#[32, 45, 32]⟩⟩,
  ⟨2, 2, false, 0, 3, ⟨#[32, 42, 32]⟩⟩,
  ⟨2, 2, false, 0, 3, ⟨#[32, 47, 32]⟩⟩,
  ⟨2, 2, false, 0, 1, ⟨#[32, 60, 32]⟩⟩,
  ⟨2, 2, false, 0, 1, ⟨#[32, 61, 61, 32]⟩⟩]
def noShape : Shape := ⟨0, 0, false, 0, 4, ⟨#[]⟩⟩
def shapeOf (k : Int) : Shape × Bool := if 1 ≤ k ∧ k ≤ 18 then (shapes.getD (k - 1).toNat noShape, true) else (noShape, false)
theorem of_none (k : Int) (hk : ¬ (1 ≤ k ∧ k ≤ 18)) (w : World) : Calls Try.prog 96 #[.int .i64 k] w fun e w' => e = .returned (.tuple #[Shape.val noShape, .bool false]) ∧ Below w.heap.size w w' := by
  have h1 : (k == 1) = false := by simp; omega
  have h2 : (k == 2) = false := by simp; omega
  have h3 : (k == 3) = false := by simp; omega
  have h4 : (k == 4) = false := by simp; omega
  have h5 : (k == 5) = false := by simp; omega
  have h6 : (k == 6) = false := by simp; omega
  have h7 : (k == 7) = false := by simp; omega
  have h8 : (k == 8) = false := by simp; omega
  have h9 : (k == 9) = false := by simp; omega
  have h10 : (k == 10) = false := by simp; omega
  have h11 : (k == 11) = false := by simp; omega
  have h12 : (k == 12) = false := by simp; omega
  have h13 : (k == 13) = false := by simp; omega
  have h14 : (k == 14) = false := by simp; omega
  have h15 : (k == 15) = false := by simp; omega
  have h16 : (k == 16) = false := by simp; omega
  have h17 : (k == 17) = false := by simp; omega
  have h18 : (k == 18) = false := by simp; omega
  clear hk
  go_enter Try.func96, Try.ntmps96
  go_wp2
  go_returns
  exact ⟨rfl, by go_grown⟩
theorem of_any (k : Int) (w : World) : Calls Try.prog 96 #[.int .i64 k] w fun e w' => e = .returned (.tuple #[Shape.val (shapeOf k).1, .bool (shapeOf k).2]) ∧ Below w.heap.size w w' := by
  by_cases hk : 1 ≤ k ∧ k ≤ 18
  · have hcase : k = 1 ∨ k = 2 ∨ k = 3 ∨ k = 4 ∨ k = 5 ∨ k = 6 ∨ k = 7 ∨ k = 8 ∨ k = 9 ∨ k = 10 ∨ k = 11 ∨ k = 12 ∨ k = 13 ∨ k = 14 ∨ k = 15 ∨ k = 16 ∨ k = 17 ∨ k = 18 := by omega
    rcases hcase with rfl | rfl | rfl | rfl | rfl | rfl | rfl | rfl | rfl | rfl | rfl | rfl | rfl | rfl | rfl | rfl | rfl | rfl
    · exact of_1 w
    · exact of_2 w
    · exact of_3 w
    · exact of_4 w
    · exact of_5 w
    · exact of_6 w
    · exact of_7 w
    · exact of_8 w
    · exact of_9 w
    · exact of_10 w
    · exact of_11 w
    · exact of_12 w
    · exact of_13 w
    · exact of_14 w
    · exact of_15 w
    · exact of_16 w
    · exact of_17 w
    · exact of_18 w
  · have h : shapeOf k = (noShape, false) := by unfold shapeOf; rw [if_neg hk]
    rw [h]
    exact of_none k hk w
end Go.Proofs.Ytjciafpihdbedaa
end
section
namespace Go.Proofs.Ytjciafpihdbedaa
open Go.RowKit
def exprTop (x : Expr) : Bool :=
  (shapeOf x.kind).2 && decide ((shapeOf x.kind).1.least ≤ x.kids.length) && decide ((x.kids.length : Int) ≤ (shapeOf x.kind).1.most) && decide (0 ≤ x.num) && decide (x.num ≤ (shapeOf x.kind).1.num) &&
    (if (shapeOf x.kind).1.name then isNameB x.name else x.name.data.toList.isEmpty)
mutual
def exprB : Expr → Bool | ⟨k, n, nm, kids⟩ => exprTop ⟨k, n, nm, kids⟩ && exprsB kids
def exprsB : List Expr → Bool | [] => true | x :: r => exprB x && exprsB r
end
theorem exprsB_all : ∀ l : List Expr, exprsB l = l.all exprB
  | [] => rfl
  | x :: r => by simp [exprsB, exprsB_all r]
theorem exprB_eq (x : Expr) : exprB x = (exprTop x && x.kids.all exprB) := by
  cases x; simp [exprB, exprsB_all]
theorem exprTop_eq (x : Expr) : exprTop x = ((shapeOf x.kind).2 && decide ((shapeOf x.kind).1.least ≤ x.kids.length) && decide ((x.kids.length : Int) ≤ (shapeOf x.kind).1.most) && decide (0 ≤ x.num) && decide (x.num ≤ (shapeOf x.kind).1.num) &&
    (if (shapeOf x.kind).1.name then isNameB x.name else x.name.data.toList.isEmpty)) := rfl
theorem expr1_any (w : World) (k n : Int) (s : ByteArray) (a : Option Addr) (m cap : Nat) (p : Bool) (h : ∀ W, Below w.heap.size w W → Calls Try.prog 88 #[.agg #[.int .i64 k, .int .i64 n, .string s, .slice a m cap]] W fun e w' => e = .returned (.bool p) ∧ Below W.heap.size W w') :
    Calls Try.prog 97 #[.agg #[.int .i64 k, .int .i64 n, .string s, .slice a m cap]] w fun e w' => e = .returned (.bool (!p)) ∧ Below w.heap.size w w' := by
  have H := Lib.hid h
  clear h
  go_enter Try.func97, Try.ntmps97
  go_wp2_with fail
  refine (H.out _ (by go_grown)).mono ?_
  rintro e w' ⟨rfl, hb⟩
  have HB : Hid (Below w.heap.size w w') := afterCall (by go_grown) hb
  clear hb
  go_wp2
  go_ret
  exact ⟨rfl, HB.out⟩
theorem expr_any (d : Nat) : ∀ (w : World) (cs : List Value) (x : Expr), HasMax w → RExpr d w (· < w.heap.size) cs x →
    Calls Try.prog 88 #[.agg cs.toArray] w fun e w' => e = .returned (.bool (exprB x)) ∧ Below w.heap.size w w' := by
  induction d using Nat.strongRecOn with
  | ind d ih =>
    intro w cs x hM hx
    obtain ⟨d', a', n', cap', hd, rfl, wk, wn, ws, hk⟩ := hx.inv
    have HM := Lib.hid hM
    have HK := Lib.hid hk
    have IH := Lib.hid ih
    have HT := Lib.hid (exprB_eq x)
    have HTT := Lib.hid (exprTop_eq x)
    obtain ⟨_, _, _, heq, hlen, _, hmx, _⟩ := HK.out
    cases heq
    unfold maxC at hmx
    have hg : ∀ args W, (callFunc 97 args).run Try.prog W = .ok (.enter 97 args) W := fun _ _ => by kernel_rfl
    have HG := Lib.hid hg
    have HL := Lib.hid hlen
    clear hM hk ih hx hg hlen
    go_enter Try.func88, Try.ntmps88
    go_wp2_with fail
    refine (of_any _ _).mono ?_
    rintro e w1 ⟨rfl, hb1⟩
    have HB1 : Hid (Below w.heap.size w w1) := afterCall (by go_grown) hb1
    have k0 : w1.cell? ⟨w.heap.size, 0, none⟩ = some (.int .i64 x.kind) := (hb1.cell (by simp)).trans (by simp)
    have k1 : w1.cell? ⟨w.heap.size, 1, none⟩ = some (.int .i64 x.num) := (hb1.cell (by simp)).trans (by simp)
    have k2 : w1.cell? ⟨w.heap.size, 2, none⟩ = some (.string x.name) := (hb1.cell (by simp)).trans (by simp)
    have k3 : w1.cell? ⟨w.heap.size, 3, none⟩ = some (.slice a' n' cap') := (hb1.cell (by simp)).trans (by simp)
    have hsz : w.heap.size < w1.heap.size := cell_lt k0
    clear hb1
    generalize shapeOf x.kind = so at *
    obtain ⟨⟨s0, s1, s2, s3, s4, s5⟩, ok⟩ := so
    simp only [Shape.val]
    go_wp2_with (first
      | (go_at_call 42; refine (name_in (HM.out.keep (HB1.out.alloc HB1.out.size _)) _ ws).mono ?_; rintro e w' ⟨rfl, rfl⟩))
    all_goals first
      | (go_ret
         refine ⟨ret_bool ?_, HB1.out.alloc HB1.out.size _⟩
         rw [HT.out, HTT.out, HL.out]
         simp [*]
         done)
      | (go_ret
         refine ⟨ret_bool ?_, HB1.out.alloc HB1.out.size _⟩
         rw [HT.out, HTT.out, HL.out]
         try (have hz := ‹(!x.name.toList.isEmpty) = true›; simp at hz)
         simp [*, ← Lib.toList_data]
         done)
      | (go_ret
         refine ⟨ret_bool ?_, HB1.out.alloc HB1.out.size _⟩
         rw [HT.out, HTT.out, HL.out]
         try (have hz := ‹(!x.name.toList.isEmpty) = true›; simp at hz)
         simp [*, ← Lib.toList_data]
         omega)
      | (have HTOP : Hid (exprTop x = true) := by
           show exprTop x = true
           rw [HTT.out, HL.out]
           try (have hz := ‹(!x.name.toList.isEmpty) = false›; simp at hz)
           simp [*, ← Lib.toList_data]
           try omega
         clear HTT
         have HB2 : Hid (∀ X, Below w.heap.size w (w1.alloc X)) := fun X => HB1.out.alloc HB1.out.size X
         refine (containsExprs_any (RExpr d' (w1.alloc _) (· < (w1.alloc _).heap.size)) x.kids (fun x => !exprB x) 97 _ _ HG.out ?_ (HK.out.mono (fun k hk => ?_) (fun k hk => ?_)) ?_).mono ?_
         · intro cs y hy; obtain ⟨_, _, _, _, _, rfl, _⟩ := hy.inv; rfl
         · exact Nat.lt_of_lt_of_le hk (HB2.out _).size
         · exact (HB2.out _).block k hk
         · intro W cs y hb hy hr
           obtain ⟨_, _, _, _, _, rfl, _⟩ := hr.inv
           refine expr1_any W _ _ _ _ _ _ _ (fun W' hb' => ?_)
           have hb2 : Below (w1.alloc _).heap.size (w1.alloc _) W' := hb.trans (hb'.mono hb.size)
           exact IH.out d' hd W' _ y ((HM.out.keep (HB2.out _)).keep hb2) (hr.mono (fun k hk => Nat.lt_of_lt_of_le hk hb2.size) (fun k hk => hb2.block k hk))
         rintro e w2 ⟨rfl, hb2⟩
         have HB3 : Hid (Below w.heap.size w w2) := afterCall (HB2.out _) hb2
         clear hb2
         go_wp2
         go_ret
         refine ⟨ret_bool ?_, HB3.out⟩
         rw [HT.out, HTOP.out, List.all_eq_not_any_not]
         simp)
end Go.Proofs.Ytjciafpihdbedaa
end
section
namespace Go.Proofs.Ytjciafpihdbedaa
open Go.RowKit
def exprsOf (k : Int) : Int × Int := if k = 1 then (0, 1) else if k = 2 then (2, 2) else if 3 ≤ k ∧ k ≤ 7 then (1, 1) else (-1, -1)
def stmtTop (x : Stmt) : Bool :=
  decide (0 ≤ (exprsOf x.kind).1) && decide ((exprsOf x.kind).1 ≤ x.exprs.length) && decide ((x.exprs.length : Int) ≤ (exprsOf x.kind).2) &&
  (if x.kind = 1 then isTypeB x.type && isNameB x.name else x.type.toList.isEmpty && x.name.toList.isEmpty) &&
  (if x.kind = 5 then decide (0 ≤ x.num) && decide (x.num ≤ 99) else x.num == 0) &&
  (x.kind == 3 || x.kind == 4 || x.thn.isEmpty) && (x.kind == 3 || x.els.isEmpty)
def isPlace (k : Int) : Bool := k == 4 || k == 7 || k == 8
def firstB (x : Stmt) : Bool := match x.exprs with
  | [] => true
  | e :: _ => if x.kind = 2 then isPlace e.kind else if x.kind = 7 then e.kind == 10 else true
mutual
def stmtB : Stmt → Bool | ⟨k, n, t, nm, es, th, el⟩ => stmtTop ⟨k, n, t, nm, es, th, el⟩ && es.all exprB && firstB ⟨k, n, t, nm, es, th, el⟩ && stmtsB th && stmtsB el
def stmtsB : List Stmt → Bool | [] => true | x :: r => stmtB x && stmtsB r
end
theorem stmtsB_all : ∀ l : List Stmt, stmtsB l = l.all stmtB
  | [] => rfl
  | x :: r => by simp [stmtsB, stmtsB_all r]
theorem stmtB_eq (x : Stmt) : stmtB x = (stmtTop x && x.exprs.all exprB && firstB x && x.thn.all stmtB && x.els.all stmtB) := by
  cases x; simp [stmtB, stmtsB_all]
theorem stmt1_any (k : Int) (w : World) : Calls Try.prog 83 #[.int .i64 k] w fun e w' => e = .returned (.bool (true)) ∧ w = w' := by
  go_enter Try.func83, Try.ntmps83
  go_wp2
  all_goals go_ret
  all_goals refine ⟨ret_bool ?_, rfl⟩
  all_goals simp_all
theorem stmt2_any (k : Int) (w : World) : Calls Try.prog 84 #[.int .i64 k] w fun e w' => e = .returned (.bool (isPlace k)) ∧ w = w' := by
  go_enter Try.func84, Try.ntmps84
  go_wp2
  all_goals go_ret
  all_goals refine ⟨ret_bool ?_, rfl⟩
  all_goals simp_all [isPlace]
theorem stmt3_any (k : Int) (w : World) : Calls Try.prog 85 #[.int .i64 k] w fun e w' => e = .returned (.bool (k == 10)) ∧ w = w' := by
  go_enter Try.func85, Try.ntmps85
  go_wp2
  all_goals go_ret
  all_goals refine ⟨ret_bool ?_, rfl⟩
  all_goals simp_all
theorem stmt4_any (d : Nat) (w : World) (hM : HasMax w) (cs : List Value) (x : Expr) (hx : RExpr d w (· < w.heap.size) cs x) :
    Calls Try.prog 87 #[.agg cs.toArray] w fun e w' => e = .returned (.bool (!exprB x)) ∧ Below w.heap.size w w' := by
  have HR := Lib.hid hx
  have HM := Lib.hid hM
  obtain ⟨d', a', n', cap', hd, rfl, -⟩ := hx.inv
  clear hx hM
  go_enter Try.func87, Try.ntmps87
  go_wp2_with fail
  (with_reducible refine (expr_any d _ [_, _, _, _] x (HM.out.keep ?_) (HR.out.mono ?_ ?_)).mono ?_)
  · go_grown
  · exact fun k hk => by simp; omega
  · exact fun k hk => Below.heap_alloc _ _ _ hk
  rintro e w' ⟨rfl, hb⟩
  have HB : Hid (Below w.heap.size w w') := afterCall (by go_grown) hb
  clear hb
  go_wp2
  go_ret
  exact ⟨rfl, HB.out⟩
theorem stmts1_any (w : World) (k n : Int) (t s : ByteArray) (a a' a'' : Option Addr) (m m' m'' cap cap' cap'' : Nat) (p : Bool)
    (h : ∀ W, Below w.heap.size w W → Calls Try.prog 66 #[.agg #[.int .i64 k, .int .i64 n, .string t, .string s, .slice a m cap, .slice a' m' cap', .slice a'' m'' cap'']] W fun e w' => e = .returned (.bool p) ∧ Below W.heap.size W w') :
    Calls Try.prog 65 #[.agg #[.int .i64 k, .int .i64 n, .string t, .string s, .slice a m cap, .slice a' m' cap', .slice a'' m'' cap'']] w fun e w' => e = .returned (.bool (!p)) ∧ Below w.heap.size w w' := by
  have H := Lib.hid h
  clear h
  go_enter Try.func65, Try.ntmps65
  go_wp2_with fail
  refine (H.out _ (by go_grown)).mono ?_
  rintro e w' ⟨rfl, hb⟩
  have HB : Hid (Below w.heap.size w w') := afterCall (by go_grown) hb
  clear hb
  go_wp2
  go_ret
  exact ⟨rfl, HB.out⟩
theorem stmts_of (d : Nat) (hS : ∀ (w : World) (cs : List Value) (x : Stmt), HasMax w → RStmt d w (· < w.heap.size) cs x → Calls Try.prog 66 #[.agg cs.toArray] w fun e w' => e = .returned (.bool (stmtB x)) ∧ Below w.heap.size w w')
    (w : World) (v : Value) (l : List Stmt) (hM : HasMax w) (h : RStmts d w (· < w.heap.size) v l) :
    Calls Try.prog 41 #[v] w fun e w' => e = .returned (.bool (l.all stmtB)) ∧ Below w.heap.size w w' := by
  have HM := Lib.hid hM
  have H := Lib.hid h
  have HS := Lib.hid hS
  clear hM h hS
  have hg : ∀ args W, (callFunc 65 args).run Try.prog W = .ok (.enter 65 args) W := fun _ _ => by kernel_rfl
  go_enter Try.func41, Try.ntmps41
  go_wp2_with fail
  refine (containsStmts_any (RStmt d w (· < w.heap.size)) l (fun x => !stmtB x) 65 v w hg (fun cs x hx => by obtain ⟨_, _, _, _, _, _, _, _, _, _, _, rfl, _⟩ := hx.inv; rfl) H.out ?_).mono ?_
  · intro W cs x hb _ hx
    obtain ⟨_, _, _, _, _, _, _, _, _, _, _, rfl, _⟩ := hx.inv
    refine stmts1_any W _ _ _ _ _ _ _ _ _ _ _ _ _ _ (fun W' hb' => ?_)
    have hb2 : Below w.heap.size w W' := hb.trans (hb'.mono hb.size)
    exact HS.out W' _ x (HM.out.keep hb2) (hx.mono (fun k hk => Nat.lt_of_lt_of_le hk hb2.size) (fun k hk => hb2.block k hk))
  rintro e w' ⟨rfl, hb⟩
  have HB := Lib.hid hb
  clear hb
  go_wp2
  go_ret
  refine ⟨ret_bool ?_, HB.out⟩
  rw [List.all_eq_not_any_not]
theorem first_of {x : Stmt} {e : Expr} (h : x.exprs[0]? = some e) : firstB x = if x.kind = 2 then isPlace e.kind else if x.kind = 7 then e.kind == 10 else true := by
  cases hx : x.exprs with
  | nil => rw [hx] at h; simp at h
  | cons a r => rw [hx] at h; simp at h; subst h; unfold firstB; rw [hx]
set_option maxHeartbeats 2000000 in
theorem stmt_any (d : Nat) : ∀ (w : World) (cs : List Value) (x : Stmt), HasMax w → RStmt d w (· < w.heap.size) cs x →
    Calls Try.prog 66 #[.agg cs.toArray] w fun e w' => e = .returned (.bool (stmtB x)) ∧ Below w.heap.size w w' := by
  induction d using Nat.strongRecOn with
  | ind d ih =>
    intro w cs x hM hx
    obtain ⟨d', a1, n1, cap1, a2, n2, cap2, a3, n3, cap3, hd, rfl, wk, wn, wt, ws, h4, h5, h6⟩ := hx.inv
    have HM := Lib.hid hM
    have IH := Lib.hid (stmts_of d' (ih d' hd))
    have HT := Lib.hid (stmtB_eq x)
    have HE := Lib.hid h4
    have H5 := Lib.hid h5
    have H6 := Lib.hid h6
    obtain ⟨_, _, _, heq, hl1, _, hm1, hel⟩ := h4
    cases heq
    obtain ⟨_, _, _, heq, hl2, _, hm2, _⟩ := h5
    cases heq
    obtain ⟨_, _, _, heq, hl3, _, hm3, _⟩ := h6
    cases heq
    unfold maxC at hm1 hm2 hm3
    have HEL := Lib.hid hel
    have HL1 := Lib.hid hl1
    have HL2 := Lib.hid hl2
    have HL3 := Lib.hid hl3
    have hg : ∀ args W, (callFunc 87 args).run Try.prog W = .ok (.enter 87 args) W := fun _ _ => by kernel_rfl
    have HG := Lib.hid hg
    clear ih hx hl1 hl2 hl3 hel wk wn hM hg
    by_cases k1 : x.kind = 1
    · have t1 : (x.kind == 1) = true := by simp [k1]
      have t1' : (x.kind != 1) = false := by simp [k1]
      have HC : Hid (stmtTop x = (decide (n1 ≤ 1) && slotB ⟨x.type, x.name⟩ && (x.num == 0) && (n2 == 0) && (n3 == 0))) := by
        show stmtTop x = _
        have e2 : x.thn.isEmpty = (n2 == 0) := by rw [← HL2.out]; cases x.thn <;> simp
        have e3 : x.els.isEmpty = (n3 == 0) := by rw [← HL3.out]; cases x.els <;> simp
        simp [stmtTop, exprsOf, k1, HL1.out, e2, e3, slotB]
        rw [Bool.eq_iff_iff]; simp; omega
      have HK : Hid (x.kind = 1) := k1
      clear k1
      go_enter Try.func66, Try.ntmps66
      go_wp2_with (first
        | (go_at_call 44; refine (slot_any _ _ wt ws _ (HM.out.keep (by go_grown))).mono ?_; rintro e w1 ⟨rfl, hb1⟩
           have HB1 : Hid (Below w.heap.size w w1) := afterCall (by go_grown) hb1
           have q1 : w1.cell? ⟨w.heap.size, 1, none⟩ = some (.int .i64 x.num) := (hb1.cell (by simp)).trans (by simp)
           have q4 : w1.cell? ⟨w.heap.size, 4, none⟩ = some (.slice a1 n1 cap1) := (hb1.cell (by simp)).trans (by simp)
           have q0 : w1.cell? ⟨w.heap.size, 0, none⟩ = some (.int .i64 x.kind) := (hb1.cell (by simp)).trans (by simp)
           have q5 : w1.cell? ⟨w.heap.size, 5, none⟩ = some (.slice a2 n2 cap2) := (hb1.cell (by simp)).trans (by simp)
           have q6 : w1.cell? ⟨w.heap.size, 6, none⟩ = some (.slice a3 n3 cap3) := (hb1.cell (by simp)).trans (by simp)
           clear hb1))
      all_goals first
        | (go_ret
           refine ⟨ret_bool ?_, by first | exact HB1.out | go_grown⟩
           rw [HT.out, HC.out]
           clear HT HC HEL HE H5 H6 IH HG HL1 HL2 HL3
           simp_all
           first | done | (intros; omega) | (intros; simp_all; done))
        | (have HTOP : Hid (stmtTop x = true) := by
             show stmtTop x = true
             rw [HC.out]
             clear HT HC HEL HE H5 H6 IH HG HL1 HL2 HL3
             simp_all
             first | done | (intros; omega) | (intros; simp_all; done)
           have hn1 : n1 = 0 ∨ n1 = 1 := by
             have : (↑n1 != min (↑n1 : Int) 1) = false := by assumption
             simp at this
             omega
           obtain ⟨wc, hwc⟩ : ∃ wc, wc = w1 := ⟨_, rfl⟩
           subst hwc
           have HBC := HB1
           rcases hn1 with rfl | rfl
           ·
             have Q0 := Lib.hid q0
             clear q0
             refine (containsExprs_any (RExpr d' wc (· < wc.heap.size)) x.exprs (fun x => !exprB x) 87 _ wc HG.out ?_ (HE.out.mono (fun k hk => Nat.lt_of_lt_of_le hk HBC.out.size) (fun k hk => HBC.out.block k hk)) ?_).mono ?_
             · intro cs y hy; obtain ⟨_, _, _, _, _, rfl, _⟩ := hy.inv; rfl
             · intro W cs y hb hy hr
               exact stmt4_any d' W ((HM.out.keep HBC.out).keep hb) cs y (hr.mono (fun k hk => Nat.lt_of_lt_of_le hk hb.size) (fun k hk => hb.block k hk))
             rintro e w2 ⟨rfl, hb2⟩
             have HB2 : Hid (Below w.heap.size w w2) := afterCall HBC.out hb2
             have r4 := next (o := 4) hb2 q4
             have r5 := next (o := 5) hb2 q5
             have r6 := next (o := 6) hb2 q6
             clear hb2 q4 q5 q6
             have HX : Hid (x.exprs.all exprB = !(x.exprs.any fun x => !exprB x)) := by show _ = _; rw [List.all_eq_not_any_not]
             cases hany : x.exprs.any fun x => !exprB x with
             | true =>
               have HR : Hid (stmtB x = false) := by show stmtB x = false; rw [HT.out, HX.out, hany]; simp
               go_wp2
               go_ret
               exact ⟨ret_bool HR.out.symm, HB2.out⟩
             | false =>
               have HX2 : Hid (x.exprs.all exprB = true) := by show _ = _; rw [HX.out, hany]; rfl
               have HF : Hid (firstB x = true) := by
                 have : x.exprs = [] := List.length_eq_zero_iff.1 HL1.out
                 show firstB x = true
                 unfold firstB; rw [this]
               go_wp2_with fail
               all_goals first
                 | (go_ret
                    refine ⟨ret_bool ?_, HB2.out⟩
                    rw [HT.out, HF.out]
                    simp only [*]
                    simp
                    done)
                 | (go_ret
                    refine ⟨ret_bool ?_, HB2.out⟩
                    rw [HT.out, HF.out]
                    clear HT HX HX2 HEL HE H5 H6 IH HG HL1 HL2 HL3
                    simp_all
                    done)
                 | (have HF2 : Hid (firstB x = true) := by
                      show firstB x = true
                      rw [HF.out]
                      all_goals (clear HT HX HX2 HEL HE H5 H6 IH HG HL1 HL2 HL3; simp_all)
                    refine (IH.out w2 _ x.thn (HM.out.keep HB2.out) (H5.out.mono (fun k hk => Nat.lt_of_lt_of_le hk HB2.out.size) (fun k hk => HB2.out.block k hk))).mono ?_
                    rintro e w3 ⟨rfl, hb3⟩
                    have HB3 := nextB hb3 HB2
                    have s6 := next (o := 6) hb3 r6
                    clear hb3 r4 r5 r6
                    cases hth : x.thn.all stmtB with
                    | false =>
                      go_wp2
                      go_ret
                      exact ⟨ret_bool (by rw [HT.out, hth]; simp), HB3.out⟩
                    | true =>
                      go_wp2_with fail
                      refine (IH.out w3 _ x.els (HM.out.keep HB3.out) (H6.out.mono (fun k hk => Nat.lt_of_lt_of_le hk HB3.out.size) (fun k hk => HB3.out.block k hk))).mono ?_
                      rintro e w4 ⟨rfl, hb4⟩
                      have HB4 := nextB hb4 HB3
                      clear hb4
                      go_wp2
                      go_ret
                      exact ⟨ret_bool (by rw [HT.out, HTOP.out, HX2.out, HF2.out, hth]; simp), HB4.out⟩)
           ·
             have Q0 := Lib.hid q0
             clear q0
             refine (containsExprs_any (RExpr d' wc (· < wc.heap.size)) x.exprs (fun x => !exprB x) 87 _ wc HG.out ?_ (HE.out.mono (fun k hk => Nat.lt_of_lt_of_le hk HBC.out.size) (fun k hk => HBC.out.block k hk)) ?_).mono ?_
             · intro cs y hy; obtain ⟨_, _, _, _, _, rfl, _⟩ := hy.inv; rfl
             · intro W cs y hb hy hr
               exact stmt4_any d' W ((HM.out.keep HBC.out).keep hb) cs y (hr.mono (fun k hk => Nat.lt_of_lt_of_le hk hb.size) (fun k hk => hb.block k hk))
             rintro e w2 ⟨rfl, hb2⟩
             have HB2 : Hid (Below w.heap.size w w2) := afterCall HBC.out hb2
             have r4 := next (o := 4) hb2 q4
             have r5 := next (o := 5) hb2 q5
             have r6 := next (o := 6) hb2 q6
             clear hb2 q4 q5 q6
             have HX : Hid (x.exprs.all exprB = !(x.exprs.any fun x => !exprB x)) := by show _ = _; rw [List.all_eq_not_any_not]
             cases hany : x.exprs.any fun x => !exprB x with
             | true =>
               have HR : Hid (stmtB x = false) := by show stmtB x = false; rw [HT.out, HX.out, hany]; simp
               go_wp2
               go_ret
               exact ⟨ret_bool HR.out.symm, HB2.out⟩
             | false =>
               have HX2 : Hid (x.exprs.all exprB = true) := by show _ = _; rw [HX.out, hany]; rfl
               obtain ⟨y, hy⟩ : ∃ y, x.exprs[0]? = some y := ⟨_, List.getElem?_eq_getElem (by rw [HL1.out]; omega)⟩
               have HF : Hid (firstB x = true) := by show firstB x = _; rw [first_of hy]; simp [HK.out]
               obtain ⟨b, off, cs, rfl, hbl, hc, hr⟩ := HEL.out 0 _ hy
               obtain ⟨_, _, _, _, _, rfl, -⟩ := hr.inv
               obtain ⟨c0, -⟩ := cellsAt_of_block (HB2.out.block b hbl) hc
               have c0' : w2.cell? ⟨b, off, none⟩ = some (.int .i64 y.kind) := by simpa using c0
               clear c0 hc hr hy
               go_wp2_with (go_at_call 83; refine (stmt1_any _ _).mono ?_; rintro e w' ⟨rfl, rfl⟩)
               all_goals first
                 | (go_ret
                    refine ⟨ret_bool ?_, HB2.out⟩
                    rw [HT.out, HF.out]
                    simp only [*]
                    simp
                    done)
                 | (go_ret
                    refine ⟨ret_bool ?_, HB2.out⟩
                    rw [HT.out, HF.out]
                    clear HT HX HX2 HEL HE H5 H6 IH HG HL1 HL2 HL3
                    simp_all
                    done)
                 | (have HF2 : Hid (firstB x = true) := by
                      show firstB x = true
                      rw [HF.out]
                      all_goals (clear HT HX HX2 HEL HE H5 H6 IH HG HL1 HL2 HL3; simp_all)
                    refine (IH.out w2 _ x.thn (HM.out.keep HB2.out) (H5.out.mono (fun k hk => Nat.lt_of_lt_of_le hk HB2.out.size) (fun k hk => HB2.out.block k hk))).mono ?_
                    rintro e w3 ⟨rfl, hb3⟩
                    have HB3 := nextB hb3 HB2
                    have s6 := next (o := 6) hb3 r6
                    clear hb3 r4 r5 r6
                    cases hth : x.thn.all stmtB with
                    | false =>
                      go_wp2
                      go_ret
                      exact ⟨ret_bool (by rw [HT.out, hth]; simp), HB3.out⟩
                    | true =>
                      go_wp2_with fail
                      refine (IH.out w3 _ x.els (HM.out.keep HB3.out) (H6.out.mono (fun k hk => Nat.lt_of_lt_of_le hk HB3.out.size) (fun k hk => HB3.out.block k hk))).mono ?_
                      rintro e w4 ⟨rfl, hb4⟩
                      have HB4 := nextB hb4 HB3
                      clear hb4
                      go_wp2
                      go_ret
                      exact ⟨ret_bool (by rw [HT.out, HTOP.out, HX2.out, HF2.out, hth]; simp), HB4.out⟩))
    have t1 : (x.kind == 1) = false := by simp [k1]
    have hcat : x.type.size + x.name.size ≤ 9223372036854775807 := by unfold maxS at wt ws; omega
    have hcat2 : (x.type ++ x.name).toList.isEmpty = (x.type.toList.isEmpty && x.name.toList.isEmpty) := by
      simp only [Lib.toList_data]; rw [Bool.eq_iff_iff]; simp
    by_cases k2 : x.kind = 2
    · have HC : Hid (stmtTop x = (decide ((2 : Int) ≤ n1) && decide ((n1 : Int) ≤ 2) && (x.type.toList.isEmpty && x.name.toList.isEmpty) && x.num == 0 && n2 == 0 && n3 == 0)) := by
        show stmtTop x = _
        have e2 : x.thn.isEmpty = (n2 == 0) := by rw [← HL2.out]; cases x.thn <;> simp
        have e3 : x.els.isEmpty = (n3 == 0) := by rw [← HL3.out]; cases x.els <;> simp
        simp [stmtTop, exprsOf, k2, HL1.out, e2, e3]
      have HK : Hid (x.kind = 2) := k2
      have t2 : (x.kind == 2) = true := by simp [k2]
      have t1' : (x.kind != 1) = true := by simp [k2]
      clear k2 k1
      go_enter Try.func66, Try.ntmps66
      go_wp2_with fail
      all_goals first
        | (go_ret
           refine ⟨ret_bool ?_, by go_grown⟩
           rw [HT.out, HC.out]
           clear HT HC HEL HE H5 H6 IH HG HL1 HL2 HL3
           simp_all
           first | done | (intros; omega) | (intros; simp_all; done))
        | (have HTOP : Hid (stmtTop x = true) := by
             show stmtTop x = true
             rw [HC.out]
             clear HT HC HEL HE H5 H6 IH HG HL1 HL2 HL3
             simp_all
             first | done | (intros; omega) | (intros; simp_all; done)
           have hn1 : 1 ≤ n1 := by
             have h0 := HTOP.out
             rw [HC.out] at h0
             simp at h0
             omega
           generalize hwc : w.alloc _ = wc
           have HBC : Hid (Below w.heap.size w wc) := by rw [← hwc]; show Below w.heap.size w _; go_grown
           have q0 : wc.cell? ⟨w.heap.size, 0, none⟩ = some (.int .i64 x.kind) := by rw [← hwc]; simp
           have q4 : wc.cell? ⟨w.heap.size, 4, none⟩ = some (.slice a1 n1 cap1) := by rw [← hwc]; simp
           have q5 : wc.cell? ⟨w.heap.size, 5, none⟩ = some (.slice a2 n2 cap2) := by rw [← hwc]; simp
           have q6 : wc.cell? ⟨w.heap.size, 6, none⟩ = some (.slice a3 n3 cap3) := by rw [← hwc]; simp
           clear hwc
           have Q0 := Lib.hid q0
           clear q0
           refine (containsExprs_any (RExpr d' wc (· < wc.heap.size)) x.exprs (fun x => !exprB x) 87 _ wc HG.out ?_ (HE.out.mono (fun k hk => Nat.lt_of_lt_of_le hk HBC.out.size) (fun k hk => HBC.out.block k hk)) ?_).mono ?_
           · intro cs y hy; obtain ⟨_, _, _, _, _, rfl, _⟩ := hy.inv; rfl
           · intro W cs y hb hy hr
             exact stmt4_any d' W ((HM.out.keep HBC.out).keep hb) cs y (hr.mono (fun k hk => Nat.lt_of_lt_of_le hk hb.size) (fun k hk => hb.block k hk))
           rintro e w2 ⟨rfl, hb2⟩
           have HB2 : Hid (Below w.heap.size w w2) := afterCall HBC.out hb2
           have r4 := next (o := 4) hb2 q4
           have r5 := next (o := 5) hb2 q5
           have r6 := next (o := 6) hb2 q6
           clear hb2 q4 q5 q6
           have HX : Hid (x.exprs.all exprB = !(x.exprs.any fun x => !exprB x)) := by show _ = _; rw [List.all_eq_not_any_not]
           cases hany : x.exprs.any fun x => !exprB x with
           | true =>
             have HR : Hid (stmtB x = false) := by show stmtB x = false; rw [HT.out, HX.out, hany]; simp
             go_wp2
             go_ret
             exact ⟨ret_bool HR.out.symm, HB2.out⟩
           | false =>
             have HX2 : Hid (x.exprs.all exprB = true) := by show _ = _; rw [HX.out, hany]; rfl
             obtain ⟨y, hy⟩ : ∃ y, x.exprs[0]? = some y := ⟨_, List.getElem?_eq_getElem (by rw [HL1.out]; omega)⟩
             have HF : Hid (firstB x = isPlace y.kind) := by show firstB x = _; rw [first_of hy]; simp [HK.out]
             obtain ⟨b, off, cs, rfl, hbl, hc, hr⟩ := HEL.out 0 _ hy
             obtain ⟨_, _, _, _, _, rfl, -⟩ := hr.inv
             obtain ⟨c0, -⟩ := cellsAt_of_block (HB2.out.block b hbl) hc
             have c0' : w2.cell? ⟨b, off, none⟩ = some (.int .i64 y.kind) := by simpa using c0
             clear c0 hc hr hy
             go_wp2_with (go_at_call 84; refine (stmt2_any _ _).mono ?_; rintro e w' ⟨rfl, rfl⟩)
             all_goals first
               | (go_ret
                  refine ⟨ret_bool ?_, HB2.out⟩
                  rw [HT.out, HF.out]
                  simp only [*]
                  simp
                  done)
               | (go_ret
                  refine ⟨ret_bool ?_, HB2.out⟩
                  rw [HT.out, HF.out]
                  clear HT HX HX2 HEL HE H5 H6 IH HG HL1 HL2 HL3
                  simp_all
                  done)
               | (have HF2 : Hid (firstB x = true) := by
                    show firstB x = true
                    rw [HF.out]
                    all_goals (clear HT HX HX2 HEL HE H5 H6 IH HG HL1 HL2 HL3; simp_all)
                  refine (IH.out w2 _ x.thn (HM.out.keep HB2.out) (H5.out.mono (fun k hk => Nat.lt_of_lt_of_le hk HB2.out.size) (fun k hk => HB2.out.block k hk))).mono ?_
                  rintro e w3 ⟨rfl, hb3⟩
                  have HB3 := nextB hb3 HB2
                  have s6 := next (o := 6) hb3 r6
                  clear hb3 r4 r5 r6
                  cases hth : x.thn.all stmtB with
                  | false =>
                    go_wp2
                    go_ret
                    exact ⟨ret_bool (by rw [HT.out, hth]; simp), HB3.out⟩
                  | true =>
                    go_wp2_with fail
                    refine (IH.out w3 _ x.els (HM.out.keep HB3.out) (H6.out.mono (fun k hk => Nat.lt_of_lt_of_le hk HB3.out.size) (fun k hk => HB3.out.block k hk))).mono ?_
                    rintro e w4 ⟨rfl, hb4⟩
                    have HB4 := nextB hb4 HB3
                    clear hb4
                    go_wp2
                    go_ret
                    exact ⟨ret_bool (by rw [HT.out, HTOP.out, HX2.out, HF2.out, hth]; simp), HB4.out⟩))
    have t2 : (x.kind == 2) = false := by simp [k2]
    by_cases k3 : x.kind = 3
    · have HC : Hid (stmtTop x = (decide ((1 : Int) ≤ n1) && decide ((n1 : Int) ≤ 1) && (x.type.toList.isEmpty && x.name.toList.isEmpty) && x.num == 0)) := by
        show stmtTop x = _
        have e2 : x.thn.isEmpty = (n2 == 0) := by rw [← HL2.out]; cases x.thn <;> simp
        have e3 : x.els.isEmpty = (n3 == 0) := by rw [← HL3.out]; cases x.els <;> simp
        simp [stmtTop, exprsOf, k3, HL1.out, e2, e3]
      have HK : Hid (x.kind = 3) := k3
      have t3 : (x.kind == 3) = true := by simp [k3]
      have t1' : (x.kind != 1) = true := by simp [k3]
      clear k3 k1
      go_enter Try.func66, Try.ntmps66
      go_wp2_with fail
      all_goals first
        | (go_ret
           refine ⟨ret_bool ?_, by go_grown⟩
           rw [HT.out, HC.out]
           clear HT HC HEL HE H5 H6 IH HG HL1 HL2 HL3
           simp_all
           first | done | (intros; omega) | (intros; simp_all; done))
        | (have HTOP : Hid (stmtTop x = true) := by
             show stmtTop x = true
             rw [HC.out]
             clear HT HC HEL HE H5 H6 IH HG HL1 HL2 HL3
             simp_all
             first | done | (intros; omega) | (intros; simp_all; done)
           have hn1 : 1 ≤ n1 := by
             have h0 := HTOP.out
             rw [HC.out] at h0
             simp at h0
             omega
           generalize hwc : w.alloc _ = wc
           have HBC : Hid (Below w.heap.size w wc) := by rw [← hwc]; show Below w.heap.size w _; go_grown
           have q0 : wc.cell? ⟨w.heap.size, 0, none⟩ = some (.int .i64 x.kind) := by rw [← hwc]; simp
           have q4 : wc.cell? ⟨w.heap.size, 4, none⟩ = some (.slice a1 n1 cap1) := by rw [← hwc]; simp
           have q5 : wc.cell? ⟨w.heap.size, 5, none⟩ = some (.slice a2 n2 cap2) := by rw [← hwc]; simp
           have q6 : wc.cell? ⟨w.heap.size, 6, none⟩ = some (.slice a3 n3 cap3) := by rw [← hwc]; simp
           clear hwc
           have Q0 := Lib.hid q0
           clear q0
           refine (containsExprs_any (RExpr d' wc (· < wc.heap.size)) x.exprs (fun x => !exprB x) 87 _ wc HG.out ?_ (HE.out.mono (fun k hk => Nat.lt_of_lt_of_le hk HBC.out.size) (fun k hk => HBC.out.block k hk)) ?_).mono ?_
           · intro cs y hy; obtain ⟨_, _, _, _, _, rfl, _⟩ := hy.inv; rfl
           · intro W cs y hb hy hr
             exact stmt4_any d' W ((HM.out.keep HBC.out).keep hb) cs y (hr.mono (fun k hk => Nat.lt_of_lt_of_le hk hb.size) (fun k hk => hb.block k hk))
           rintro e w2 ⟨rfl, hb2⟩
           have HB2 : Hid (Below w.heap.size w w2) := afterCall HBC.out hb2
           have r4 := next (o := 4) hb2 q4
           have r5 := next (o := 5) hb2 q5
           have r6 := next (o := 6) hb2 q6
           clear hb2 q4 q5 q6
           have HX : Hid (x.exprs.all exprB = !(x.exprs.any fun x => !exprB x)) := by show _ = _; rw [List.all_eq_not_any_not]
           cases hany : x.exprs.any fun x => !exprB x with
           | true =>
             have HR : Hid (stmtB x = false) := by show stmtB x = false; rw [HT.out, HX.out, hany]; simp
             go_wp2
             go_ret
             exact ⟨ret_bool HR.out.symm, HB2.out⟩
           | false =>
             have HX2 : Hid (x.exprs.all exprB = true) := by show _ = _; rw [HX.out, hany]; rfl
             obtain ⟨y, hy⟩ : ∃ y, x.exprs[0]? = some y := ⟨_, List.getElem?_eq_getElem (by rw [HL1.out]; omega)⟩
             have HF : Hid (firstB x = true) := by show firstB x = _; rw [first_of hy]; simp [HK.out]
             obtain ⟨b, off, cs, rfl, hbl, hc, hr⟩ := HEL.out 0 _ hy
             obtain ⟨_, _, _, _, _, rfl, -⟩ := hr.inv
             obtain ⟨c0, -⟩ := cellsAt_of_block (HB2.out.block b hbl) hc
             have c0' : w2.cell? ⟨b, off, none⟩ = some (.int .i64 y.kind) := by simpa using c0
             clear c0 hc hr hy
             go_wp2_with (go_at_call 83; refine (stmt1_any _ _).mono ?_; rintro e w' ⟨rfl, rfl⟩)
             all_goals first
               | (go_ret
                  refine ⟨ret_bool ?_, HB2.out⟩
                  rw [HT.out, HF.out]
                  simp only [*]
                  simp
                  done)
               | (go_ret
                  refine ⟨ret_bool ?_, HB2.out⟩
                  rw [HT.out, HF.out]
                  clear HT HX HX2 HEL HE H5 H6 IH HG HL1 HL2 HL3
                  simp_all
                  done)
               | (have HF2 : Hid (firstB x = true) := by
                    show firstB x = true
                    rw [HF.out]
                    all_goals (clear HT HX HX2 HEL HE H5 H6 IH HG HL1 HL2 HL3; simp_all)
                  refine (IH.out w2 _ x.thn (HM.out.keep HB2.out) (H5.out.mono (fun k hk => Nat.lt_of_lt_of_le hk HB2.out.size) (fun k hk => HB2.out.block k hk))).mono ?_
                  rintro e w3 ⟨rfl, hb3⟩
                  have HB3 := nextB hb3 HB2
                  have s6 := next (o := 6) hb3 r6
                  clear hb3 r4 r5 r6
                  cases hth : x.thn.all stmtB with
                  | false =>
                    go_wp2
                    go_ret
                    exact ⟨ret_bool (by rw [HT.out, hth]; simp), HB3.out⟩
                  | true =>
                    go_wp2_with fail
                    refine (IH.out w3 _ x.els (HM.out.keep HB3.out) (H6.out.mono (fun k hk => Nat.lt_of_lt_of_le hk HB3.out.size) (fun k hk => HB3.out.block k hk))).mono ?_
                    rintro e w4 ⟨rfl, hb4⟩
                    have HB4 := nextB hb4 HB3
                    clear hb4
                    go_wp2
                    go_ret
                    exact ⟨ret_bool (by rw [HT.out, HTOP.out, HX2.out, HF2.out, hth]; simp), HB4.out⟩))
    have t3 : (x.kind == 3) = false := by simp [k3]
    by_cases k4 : x.kind = 4
    · have HC : Hid (stmtTop x = (decide ((1 : Int) ≤ n1) && decide ((n1 : Int) ≤ 1) && (x.type.toList.isEmpty && x.name.toList.isEmpty) && x.num == 0 && n3 == 0)) := by
        show stmtTop x = _
        have e2 : x.thn.isEmpty = (n2 == 0) := by rw [← HL2.out]; cases x.thn <;> simp
        have e3 : x.els.isEmpty = (n3 == 0) := by rw [← HL3.out]; cases x.els <;> simp
        simp [stmtTop, exprsOf, k4, HL1.out, e2, e3]
      have HK : Hid (x.kind = 4) := k4
      have t4 : (x.kind == 4) = true := by simp [k4]
      have t1' : (x.kind != 1) = true := by simp [k4]
      clear k4 k1
      go_enter Try.func66, Try.ntmps66
      go_wp2_with fail
      all_goals first
        | (go_ret
           refine ⟨ret_bool ?_, by go_grown⟩
           rw [HT.out, HC.out]
           clear HT HC HEL HE H5 H6 IH HG HL1 HL2 HL3
           simp_all
           first | done | (intros; omega) | (intros; simp_all; done))
        | (have HTOP : Hid (stmtTop x = true) := by
             show stmtTop x = true
             rw [HC.out]
             clear HT HC HEL HE H5 H6 IH HG HL1 HL2 HL3
             simp_all
             first | done | (intros; omega) | (intros; simp_all; done)
           have hn1 : 1 ≤ n1 := by
             have h0 := HTOP.out
             rw [HC.out] at h0
             simp at h0
             omega
           generalize hwc : w.alloc _ = wc
           have HBC : Hid (Below w.heap.size w wc) := by rw [← hwc]; show Below w.heap.size w _; go_grown
           have q0 : wc.cell? ⟨w.heap.size, 0, none⟩ = some (.int .i64 x.kind) := by rw [← hwc]; simp
           have q4 : wc.cell? ⟨w.heap.size, 4, none⟩ = some (.slice a1 n1 cap1) := by rw [← hwc]; simp
           have q5 : wc.cell? ⟨w.heap.size, 5, none⟩ = some (.slice a2 n2 cap2) := by rw [← hwc]; simp
           have q6 : wc.cell? ⟨w.heap.size, 6, none⟩ = some (.slice a3 n3 cap3) := by rw [← hwc]; simp
           clear hwc
           have Q0 := Lib.hid q0
           clear q0
           refine (containsExprs_any (RExpr d' wc (· < wc.heap.size)) x.exprs (fun x => !exprB x) 87 _ wc HG.out ?_ (HE.out.mono (fun k hk => Nat.lt_of_lt_of_le hk HBC.out.size) (fun k hk => HBC.out.block k hk)) ?_).mono ?_
           · intro cs y hy; obtain ⟨_, _, _, _, _, rfl, _⟩ := hy.inv; rfl
           · intro W cs y hb hy hr
             exact stmt4_any d' W ((HM.out.keep HBC.out).keep hb) cs y (hr.mono (fun k hk => Nat.lt_of_lt_of_le hk hb.size) (fun k hk => hb.block k hk))
           rintro e w2 ⟨rfl, hb2⟩
           have HB2 : Hid (Below w.heap.size w w2) := afterCall HBC.out hb2
           have r4 := next (o := 4) hb2 q4
           have r5 := next (o := 5) hb2 q5
           have r6 := next (o := 6) hb2 q6
           clear hb2 q4 q5 q6
           have HX : Hid (x.exprs.all exprB = !(x.exprs.any fun x => !exprB x)) := by show _ = _; rw [List.all_eq_not_any_not]
           cases hany : x.exprs.any fun x => !exprB x with
           | true =>
             have HR : Hid (stmtB x = false) := by show stmtB x = false; rw [HT.out, HX.out, hany]; simp
             go_wp2
             go_ret
             exact ⟨ret_bool HR.out.symm, HB2.out⟩
           | false =>
             have HX2 : Hid (x.exprs.all exprB = true) := by show _ = _; rw [HX.out, hany]; rfl
             obtain ⟨y, hy⟩ : ∃ y, x.exprs[0]? = some y := ⟨_, List.getElem?_eq_getElem (by rw [HL1.out]; omega)⟩
             have HF : Hid (firstB x = true) := by show firstB x = _; rw [first_of hy]; simp [HK.out]
             obtain ⟨b, off, cs, rfl, hbl, hc, hr⟩ := HEL.out 0 _ hy
             obtain ⟨_, _, _, _, _, rfl, -⟩ := hr.inv
             obtain ⟨c0, -⟩ := cellsAt_of_block (HB2.out.block b hbl) hc
             have c0' : w2.cell? ⟨b, off, none⟩ = some (.int .i64 y.kind) := by simpa using c0
             clear c0 hc hr hy
             go_wp2_with (go_at_call 83; refine (stmt1_any _ _).mono ?_; rintro e w' ⟨rfl, rfl⟩)
             all_goals first
               | (go_ret
                  refine ⟨ret_bool ?_, HB2.out⟩
                  rw [HT.out, HF.out]
                  simp only [*]
                  simp
                  done)
               | (go_ret
                  refine ⟨ret_bool ?_, HB2.out⟩
                  rw [HT.out, HF.out]
                  clear HT HX HX2 HEL HE H5 H6 IH HG HL1 HL2 HL3
                  simp_all
                  done)
               | (have HF2 : Hid (firstB x = true) := by
                    show firstB x = true
                    rw [HF.out]
                    all_goals (clear HT HX HX2 HEL HE H5 H6 IH HG HL1 HL2 HL3; simp_all)
                  refine (IH.out w2 _ x.thn (HM.out.keep HB2.out) (H5.out.mono (fun k hk => Nat.lt_of_lt_of_le hk HB2.out.size) (fun k hk => HB2.out.block k hk))).mono ?_
                  rintro e w3 ⟨rfl, hb3⟩
                  have HB3 := nextB hb3 HB2
                  have s6 := next (o := 6) hb3 r6
                  clear hb3 r4 r5 r6
                  cases hth : x.thn.all stmtB with
                  | false =>
                    go_wp2
                    go_ret
                    exact ⟨ret_bool (by rw [HT.out, hth]; simp), HB3.out⟩
                  | true =>
                    go_wp2_with fail
                    refine (IH.out w3 _ x.els (HM.out.keep HB3.out) (H6.out.mono (fun k hk => Nat.lt_of_lt_of_le hk HB3.out.size) (fun k hk => HB3.out.block k hk))).mono ?_
                    rintro e w4 ⟨rfl, hb4⟩
                    have HB4 := nextB hb4 HB3
                    clear hb4
                    go_wp2
                    go_ret
                    exact ⟨ret_bool (by rw [HT.out, HTOP.out, HX2.out, HF2.out, hth]; simp), HB4.out⟩))
    have t4 : (x.kind == 4) = false := by simp [k4]
    by_cases k5 : x.kind = 5
    · have HC : Hid (stmtTop x = (decide ((1 : Int) ≤ n1) && decide ((n1 : Int) ≤ 1) && (x.type.toList.isEmpty && x.name.toList.isEmpty) && (decide (0 ≤ x.num) && decide (x.num ≤ 99)) && n2 == 0 && n3 == 0)) := by
        show stmtTop x = _
        have e2 : x.thn.isEmpty = (n2 == 0) := by rw [← HL2.out]; cases x.thn <;> simp
        have e3 : x.els.isEmpty = (n3 == 0) := by rw [← HL3.out]; cases x.els <;> simp
        simp [stmtTop, exprsOf, k5, HL1.out, e2, e3]
      have HK : Hid (x.kind = 5) := k5
      have t5 : (x.kind == 5) = true := by simp [k5]
      have t1' : (x.kind != 1) = true := by simp [k5]
      clear k5 k1
      go_enter Try.func66, Try.ntmps66
      go_wp2_with fail
      all_goals first
        | (go_ret
           refine ⟨ret_bool ?_, by go_grown⟩
           rw [HT.out, HC.out]
           clear HT HC HEL HE H5 H6 IH HG HL1 HL2 HL3
           simp_all
           first | done | (intros; omega) | (intros; simp_all; done))
        | (have HTOP : Hid (stmtTop x = true) := by
             show stmtTop x = true
             rw [HC.out]
             clear HT HC HEL HE H5 H6 IH HG HL1 HL2 HL3
             simp_all
             first | done | (intros; omega) | (intros; simp_all; done)
           have hn1 : 1 ≤ n1 := by
             have h0 := HTOP.out
             rw [HC.out] at h0
             simp at h0
             omega
           generalize hwc : w.alloc _ = wc
           have HBC : Hid (Below w.heap.size w wc) := by rw [← hwc]; show Below w.heap.size w _; go_grown
           have q0 : wc.cell? ⟨w.heap.size, 0, none⟩ = some (.int .i64 x.kind) := by rw [← hwc]; simp
           have q4 : wc.cell? ⟨w.heap.size, 4, none⟩ = some (.slice a1 n1 cap1) := by rw [← hwc]; simp
           have q5 : wc.cell? ⟨w.heap.size, 5, none⟩ = some (.slice a2 n2 cap2) := by rw [← hwc]; simp
           have q6 : wc.cell? ⟨w.heap.size, 6, none⟩ = some (.slice a3 n3 cap3) := by rw [← hwc]; simp
           clear hwc
           have Q0 := Lib.hid q0
           clear q0
           refine (containsExprs_any (RExpr d' wc (· < wc.heap.size)) x.exprs (fun x => !exprB x) 87 _ wc HG.out ?_ (HE.out.mono (fun k hk => Nat.lt_of_lt_of_le hk HBC.out.size) (fun k hk => HBC.out.block k hk)) ?_).mono ?_
           · intro cs y hy; obtain ⟨_, _, _, _, _, rfl, _⟩ := hy.inv; rfl
           · intro W cs y hb hy hr
             exact stmt4_any d' W ((HM.out.keep HBC.out).keep hb) cs y (hr.mono (fun k hk => Nat.lt_of_lt_of_le hk hb.size) (fun k hk => hb.block k hk))
           rintro e w2 ⟨rfl, hb2⟩
           have HB2 : Hid (Below w.heap.size w w2) := afterCall HBC.out hb2
           have r4 := next (o := 4) hb2 q4
           have r5 := next (o := 5) hb2 q5
           have r6 := next (o := 6) hb2 q6
           clear hb2 q4 q5 q6
           have HX : Hid (x.exprs.all exprB = !(x.exprs.any fun x => !exprB x)) := by show _ = _; rw [List.all_eq_not_any_not]
           cases hany : x.exprs.any fun x => !exprB x with
           | true =>
             have HR : Hid (stmtB x = false) := by show stmtB x = false; rw [HT.out, HX.out, hany]; simp
             go_wp2
             go_ret
             exact ⟨ret_bool HR.out.symm, HB2.out⟩
           | false =>
             have HX2 : Hid (x.exprs.all exprB = true) := by show _ = _; rw [HX.out, hany]; rfl
             obtain ⟨y, hy⟩ : ∃ y, x.exprs[0]? = some y := ⟨_, List.getElem?_eq_getElem (by rw [HL1.out]; omega)⟩
             have HF : Hid (firstB x = true) := by show firstB x = _; rw [first_of hy]; simp [HK.out]
             obtain ⟨b, off, cs, rfl, hbl, hc, hr⟩ := HEL.out 0 _ hy
             obtain ⟨_, _, _, _, _, rfl, -⟩ := hr.inv
             obtain ⟨c0, -⟩ := cellsAt_of_block (HB2.out.block b hbl) hc
             have c0' : w2.cell? ⟨b, off, none⟩ = some (.int .i64 y.kind) := by simpa using c0
             clear c0 hc hr hy
             go_wp2_with (go_at_call 83; refine (stmt1_any _ _).mono ?_; rintro e w' ⟨rfl, rfl⟩)
             all_goals first
               | (go_ret
                  refine ⟨ret_bool ?_, HB2.out⟩
                  rw [HT.out, HF.out]
                  simp only [*]
                  simp
                  done)
               | (go_ret
                  refine ⟨ret_bool ?_, HB2.out⟩
                  rw [HT.out, HF.out]
                  clear HT HX HX2 HEL HE H5 H6 IH HG HL1 HL2 HL3
                  simp_all
                  done)
               | (have HF2 : Hid (firstB x = true) := by
                    show firstB x = true
                    rw [HF.out]
                    all_goals (clear HT HX HX2 HEL HE H5 H6 IH HG HL1 HL2 HL3; simp_all)
                  refine (IH.out w2 _ x.thn (HM.out.keep HB2.out) (H5.out.mono (fun k hk => Nat.lt_of_lt_of_le hk HB2.out.size) (fun k hk => HB2.out.block k hk))).mono ?_
                  rintro e w3 ⟨rfl, hb3⟩
                  have HB3 := nextB hb3 HB2
                  have s6 := next (o := 6) hb3 r6
                  clear hb3 r4 r5 r6
                  cases hth : x.thn.all stmtB with
                  | false =>
                    go_wp2
                    go_ret
                    exact ⟨ret_bool (by rw [HT.out, hth]; simp), HB3.out⟩
                  | true =>
                    go_wp2_with fail
                    refine (IH.out w3 _ x.els (HM.out.keep HB3.out) (H6.out.mono (fun k hk => Nat.lt_of_lt_of_le hk HB3.out.size) (fun k hk => HB3.out.block k hk))).mono ?_
                    rintro e w4 ⟨rfl, hb4⟩
                    have HB4 := nextB hb4 HB3
                    clear hb4
                    go_wp2
                    go_ret
                    exact ⟨ret_bool (by rw [HT.out, HTOP.out, HX2.out, HF2.out, hth]; simp), HB4.out⟩))
    have t5 : (x.kind == 5) = false := by simp [k5]
    by_cases k6 : x.kind = 6
    · have HC : Hid (stmtTop x = (decide ((1 : Int) ≤ n1) && decide ((n1 : Int) ≤ 1) && (x.type.toList.isEmpty && x.name.toList.isEmpty) && x.num == 0 && n2 == 0 && n3 == 0)) := by
        show stmtTop x = _
        have e2 : x.thn.isEmpty = (n2 == 0) := by rw [← HL2.out]; cases x.thn <;> simp
        have e3 : x.els.isEmpty = (n3 == 0) := by rw [← HL3.out]; cases x.els <;> simp
        simp [stmtTop, exprsOf, k6, HL1.out, e2, e3]
      have HK : Hid (x.kind = 6) := k6
      have t6 : (x.kind == 6) = true := by simp [k6]
      have t1' : (x.kind != 1) = true := by simp [k6]
      clear k6 k1
      go_enter Try.func66, Try.ntmps66
      go_wp2_with fail
      all_goals first
        | (go_ret
           refine ⟨ret_bool ?_, by go_grown⟩
           rw [HT.out, HC.out]
           clear HT HC HEL HE H5 H6 IH HG HL1 HL2 HL3
           simp_all
           first | done | (intros; omega) | (intros; simp_all; done))
        | (have HTOP : Hid (stmtTop x = true) := by
             show stmtTop x = true
             rw [HC.out]
             clear HT HC HEL HE H5 H6 IH HG HL1 HL2 HL3
             simp_all
             first | done | (intros; omega) | (intros; simp_all; done)
           have hn1 : 1 ≤ n1 := by
             have h0 := HTOP.out
             rw [HC.out] at h0
             simp at h0
             omega
           generalize hwc : w.alloc _ = wc
           have HBC : Hid (Below w.heap.size w wc) := by rw [← hwc]; show Below w.heap.size w _; go_grown
           have q0 : wc.cell? ⟨w.heap.size, 0, none⟩ = some (.int .i64 x.kind) := by rw [← hwc]; simp
           have q4 : wc.cell? ⟨w.heap.size, 4, none⟩ = some (.slice a1 n1 cap1) := by rw [← hwc]; simp
           have q5 : wc.cell? ⟨w.heap.size, 5, none⟩ = some (.slice a2 n2 cap2) := by rw [← hwc]; simp
           have q6 : wc.cell? ⟨w.heap.size, 6, none⟩ = some (.slice a3 n3 cap3) := by rw [← hwc]; simp
           clear hwc
           have Q0 := Lib.hid q0
           clear q0
           refine (containsExprs_any (RExpr d' wc (· < wc.heap.size)) x.exprs (fun x => !exprB x) 87 _ wc HG.out ?_ (HE.out.mono (fun k hk => Nat.lt_of_lt_of_le hk HBC.out.size) (fun k hk => HBC.out.block k hk)) ?_).mono ?_
           · intro cs y hy; obtain ⟨_, _, _, _, _, rfl, _⟩ := hy.inv; rfl
           · intro W cs y hb hy hr
             exact stmt4_any d' W ((HM.out.keep HBC.out).keep hb) cs y (hr.mono (fun k hk => Nat.lt_of_lt_of_le hk hb.size) (fun k hk => hb.block k hk))
           rintro e w2 ⟨rfl, hb2⟩
           have HB2 : Hid (Below w.heap.size w w2) := afterCall HBC.out hb2
           have r4 := next (o := 4) hb2 q4
           have r5 := next (o := 5) hb2 q5
           have r6 := next (o := 6) hb2 q6
           clear hb2 q4 q5 q6
           have HX : Hid (x.exprs.all exprB = !(x.exprs.any fun x => !exprB x)) := by show _ = _; rw [List.all_eq_not_any_not]
           cases hany : x.exprs.any fun x => !exprB x with
           | true =>
             have HR : Hid (stmtB x = false) := by show stmtB x = false; rw [HT.out, HX.out, hany]; simp
             go_wp2
             go_ret
             exact ⟨ret_bool HR.out.symm, HB2.out⟩
           | false =>
             have HX2 : Hid (x.exprs.all exprB = true) := by show _ = _; rw [HX.out, hany]; rfl
             obtain ⟨y, hy⟩ : ∃ y, x.exprs[0]? = some y := ⟨_, List.getElem?_eq_getElem (by rw [HL1.out]; omega)⟩
             have HF : Hid (firstB x = true) := by show firstB x = _; rw [first_of hy]; simp [HK.out]
             obtain ⟨b, off, cs, rfl, hbl, hc, hr⟩ := HEL.out 0 _ hy
             obtain ⟨_, _, _, _, _, rfl, -⟩ := hr.inv
             obtain ⟨c0, -⟩ := cellsAt_of_block (HB2.out.block b hbl) hc
             have c0' : w2.cell? ⟨b, off, none⟩ = some (.int .i64 y.kind) := by simpa using c0
             clear c0 hc hr hy
             go_wp2_with (go_at_call 83; refine (stmt1_any _ _).mono ?_; rintro e w' ⟨rfl, rfl⟩)
             all_goals first
               | (go_ret
                  refine ⟨ret_bool ?_, HB2.out⟩
                  rw [HT.out, HF.out]
                  simp only [*]
                  simp
                  done)
               | (go_ret
                  refine ⟨ret_bool ?_, HB2.out⟩
                  rw [HT.out, HF.out]
                  clear HT HX HX2 HEL HE H5 H6 IH HG HL1 HL2 HL3
                  simp_all
                  done)
               | (have HF2 : Hid (firstB x = true) := by
                    show firstB x = true
                    rw [HF.out]
                    all_goals (clear HT HX HX2 HEL HE H5 H6 IH HG HL1 HL2 HL3; simp_all)
                  refine (IH.out w2 _ x.thn (HM.out.keep HB2.out) (H5.out.mono (fun k hk => Nat.lt_of_lt_of_le hk HB2.out.size) (fun k hk => HB2.out.block k hk))).mono ?_
                  rintro e w3 ⟨rfl, hb3⟩
                  have HB3 := nextB hb3 HB2
                  have s6 := next (o := 6) hb3 r6
                  clear hb3 r4 r5 r6
                  cases hth : x.thn.all stmtB with
                  | false =>
                    go_wp2
                    go_ret
                    exact ⟨ret_bool (by rw [HT.out, hth]; simp), HB3.out⟩
                  | true =>
                    go_wp2_with fail
                    refine (IH.out w3 _ x.els (HM.out.keep HB3.out) (H6.out.mono (fun k hk => Nat.lt_of_lt_of_le hk HB3.out.size) (fun k hk => HB3.out.block k hk))).mono ?_
                    rintro e w4 ⟨rfl, hb4⟩
                    have HB4 := nextB hb4 HB3
                    clear hb4
                    go_wp2
                    go_ret
                    exact ⟨ret_bool (by rw [HT.out, HTOP.out, HX2.out, HF2.out, hth]; simp), HB4.out⟩))
    have t6 : (x.kind == 6) = false := by simp [k6]
    by_cases k7 : x.kind = 7
    · have HC : Hid (stmtTop x = (decide ((1 : Int) ≤ n1) && decide ((n1 : Int) ≤ 1) && (x.type.toList.isEmpty && x.name.toList.isEmpty) && x.num == 0 && n2 == 0 && n3 == 0)) := by
        show stmtTop x = _
        have e2 : x.thn.isEmpty = (n2 == 0) := by rw [← HL2.out]; cases x.thn <;> simp
        have e3 : x.els.isEmpty = (n3 == 0) := by rw [← HL3.out]; cases x.els <;> simp
        simp [stmtTop, exprsOf, k7, HL1.out, e2, e3]
      have HK : Hid (x.kind = 7) := k7
      have t7 : (x.kind == 7) = true := by simp [k7]
      have t1' : (x.kind != 1) = true := by simp [k7]
      clear k7 k1
      go_enter Try.func66, Try.ntmps66
      go_wp2_with fail
      all_goals first
        | (go_ret
           refine ⟨ret_bool ?_, by go_grown⟩
           rw [HT.out, HC.out]
           clear HT HC HEL HE H5 H6 IH HG HL1 HL2 HL3
           simp_all
           first | done | (intros; omega) | (intros; simp_all; done))
        | (have HTOP : Hid (stmtTop x = true) := by
             show stmtTop x = true
             rw [HC.out]
             clear HT HC HEL HE H5 H6 IH HG HL1 HL2 HL3
             simp_all
             first | done | (intros; omega) | (intros; simp_all; done)
           have hn1 : 1 ≤ n1 := by
             have h0 := HTOP.out
             rw [HC.out] at h0
             simp at h0
             omega
           generalize hwc : w.alloc _ = wc
           have HBC : Hid (Below w.heap.size w wc) := by rw [← hwc]; show Below w.heap.size w _; go_grown
           have q0 : wc.cell? ⟨w.heap.size, 0, none⟩ = some (.int .i64 x.kind) := by rw [← hwc]; simp
           have q4 : wc.cell? ⟨w.heap.size, 4, none⟩ = some (.slice a1 n1 cap1) := by rw [← hwc]; simp
           have q5 : wc.cell? ⟨w.heap.size, 5, none⟩ = some (.slice a2 n2 cap2) := by rw [← hwc]; simp
           have q6 : wc.cell? ⟨w.heap.size, 6, none⟩ = some (.slice a3 n3 cap3) := by rw [← hwc]; simp
           clear hwc
           have Q0 := Lib.hid q0
           clear q0
           refine (containsExprs_any (RExpr d' wc (· < wc.heap.size)) x.exprs (fun x => !exprB x) 87 _ wc HG.out ?_ (HE.out.mono (fun k hk => Nat.lt_of_lt_of_le hk HBC.out.size) (fun k hk => HBC.out.block k hk)) ?_).mono ?_
           · intro cs y hy; obtain ⟨_, _, _, _, _, rfl, _⟩ := hy.inv; rfl
           · intro W cs y hb hy hr
             exact stmt4_any d' W ((HM.out.keep HBC.out).keep hb) cs y (hr.mono (fun k hk => Nat.lt_of_lt_of_le hk hb.size) (fun k hk => hb.block k hk))
           rintro e w2 ⟨rfl, hb2⟩
           have HB2 : Hid (Below w.heap.size w w2) := afterCall HBC.out hb2
           have r4 := next (o := 4) hb2 q4
           have r5 := next (o := 5) hb2 q5
           have r6 := next (o := 6) hb2 q6
           clear hb2 q4 q5 q6
           have HX : Hid (x.exprs.all exprB = !(x.exprs.any fun x => !exprB x)) := by show _ = _; rw [List.all_eq_not_any_not]
           cases hany : x.exprs.any fun x => !exprB x with
           | true =>
             have HR : Hid (stmtB x = false) := by show stmtB x = false; rw [HT.out, HX.out, hany]; simp
             go_wp2
             go_ret
             exact ⟨ret_bool HR.out.symm, HB2.out⟩
           | false =>
             have HX2 : Hid (x.exprs.all exprB = true) := by show _ = _; rw [HX.out, hany]; rfl
             obtain ⟨y, hy⟩ : ∃ y, x.exprs[0]? = some y := ⟨_, List.getElem?_eq_getElem (by rw [HL1.out]; omega)⟩
             have HF : Hid (firstB x = (y.kind == 10)) := by show firstB x = _; rw [first_of hy]; simp [HK.out]
             obtain ⟨b, off, cs, rfl, hbl, hc, hr⟩ := HEL.out 0 _ hy
             obtain ⟨_, _, _, _, _, rfl, -⟩ := hr.inv
             obtain ⟨c0, -⟩ := cellsAt_of_block (HB2.out.block b hbl) hc
             have c0' : w2.cell? ⟨b, off, none⟩ = some (.int .i64 y.kind) := by simpa using c0
             clear c0 hc hr hy
             go_wp2_with (go_at_call 85; refine (stmt3_any _ _).mono ?_; rintro e w' ⟨rfl, rfl⟩)
             all_goals first
               | (go_ret
                  refine ⟨ret_bool ?_, HB2.out⟩
                  rw [HT.out, HF.out]
                  simp only [*]
                  simp
                  done)
               | (go_ret
                  refine ⟨ret_bool ?_, HB2.out⟩
                  rw [HT.out, HF.out]
                  clear HT HX HX2 HEL HE H5 H6 IH HG HL1 HL2 HL3
                  simp_all
                  done)
               | (have HF2 : Hid (firstB x = true) := by
                    show firstB x = true
                    rw [HF.out]
                    all_goals (clear HT HX HX2 HEL HE H5 H6 IH HG HL1 HL2 HL3; simp_all)
                  refine (IH.out w2 _ x.thn (HM.out.keep HB2.out) (H5.out.mono (fun k hk => Nat.lt_of_lt_of_le hk HB2.out.size) (fun k hk => HB2.out.block k hk))).mono ?_
                  rintro e w3 ⟨rfl, hb3⟩
                  have HB3 := nextB hb3 HB2
                  have s6 := next (o := 6) hb3 r6
                  clear hb3 r4 r5 r6
                  cases hth : x.thn.all stmtB with
                  | false =>
                    go_wp2
                    go_ret
                    exact ⟨ret_bool (by rw [HT.out, hth]; simp), HB3.out⟩
                  | true =>
                    go_wp2_with fail
                    refine (IH.out w3 _ x.els (HM.out.keep HB3.out) (H6.out.mono (fun k hk => Nat.lt_of_lt_of_le hk HB3.out.size) (fun k hk => HB3.out.block k hk))).mono ?_
                    rintro e w4 ⟨rfl, hb4⟩
                    have HB4 := nextB hb4 HB3
                    clear hb4
                    go_wp2
                    go_ret
                    exact ⟨ret_bool (by rw [HT.out, HTOP.out, HX2.out, HF2.out, hth]; simp), HB4.out⟩))
    have t7 : (x.kind == 7) = false := by simp [k7]
    have HC : Hid (stmtB x = false) := by
      have : stmtTop x = false := by
        unfold stmtTop exprsOf
        rw [if_neg k1, if_neg k2, if_neg (by omega)]; simp
      show stmtB x = false
      rw [HT.out, this]; simp
    clear k1 k2 k3 k4 k5 k6 k7
    go_enter Try.func66, Try.ntmps66
    go_wp2
    go_ret
    exact ⟨ret_bool HC.out.symm, by go_grown⟩
end Go.Proofs.Ytjciafpihdbedaa
end
section
namespace Go.Proofs.Ytjciafpihdbedaa
open Go.RowKit
theorem stmts_any (d : Nat) (w : World) (v : Value) (l : List Stmt) (hM : HasMax w) (h : RStmts d w (· < w.heap.size) v l) :
    Calls Try.prog 41 #[v] w fun e w' => e = .returned (.bool (l.all stmtB)) ∧ Below w.heap.size w w' := stmts_of d (stmt_any d) w v l hM h
end Go.Proofs.Ytjciafpihdbedaa
end
section
namespace Go.Proofs.Ytjciafpihdbedaa
open Go.RowKit
def methodB (m : Method) : Bool := slotB ⟨m.type, m.name⟩ && decide (m.params.length ≤ 4) && m.params.all slotB && m.body.all stmtB
def classTop (c : Class) : Bool := isNameB c.name && (c.super.toList.isEmpty || isNameB c.super) && c.fields.all slotB
def classB (c : Class) : Bool := classTop c && c.methods.all methodB
def checkB (p : Program) : Bool := p.main.all stmtB && p.classes.all classB
def treeErr (b : Bool) : Int := match b with | true => 0 | false => 30
theorem all_take_succ {α : Type} {l : List α} {p : α → Bool} {k : Nat} {y : α} (h : l[k]? = some y) : (l.take (k + 1)).all p = ((l.take k).all p && p y) := by
  rw [List.take_add_one, h, List.all_append]; simp
set_option maxHeartbeats 8000000 in
theorem check_any (d : Nat) (w : World) (v : Value) (p : Program) (hM : HasMax w) (hp : RProgram d w (· < w.heap.size) v p) :
    Calls Try.prog 22 #[v] w fun e w' => e = .returned (.int .i64 (treeErr (checkB p))) ∧ Below w.heap.size w w' := by
  obtain ⟨cv, mv, rfl, hC, hS⟩ := hp
  obtain ⟨ca, cn, ccap, rfl, hn, hcap, hmax, hel⟩ := hC
  obtain ⟨ma, mn, mcap, rfl⟩ := RSl.shape hS
  have H := Lib.hid hel
  have HN := Lib.hid hn
  have HS := Lib.hid hS
  have HM := Lib.hid hM
  unfold maxC at hmax
  clear hel hn hS hM
  go_enter Try.func22, Try.ntmps22
  go_wp2_with fail
  refine (stmts_any d _ _ p.main (HM.out.keep (by go_grown)) (HS.out.mono (fun k hk => by simp; omega) (fun k hk => by rw [Below.heap_alloc _ _ _ hk]))).mono ?_
  rintro e w1 ⟨rfl, hb1⟩
  have HB1 : Hid (Below w.heap.size w w1) := afterCall (by go_grown) hb1
  have k0 : w1.cell? ⟨w.heap.size, 0, none⟩ = some (.slice ca cn ccap) := by rw [hb1.cell (by simp)]; simp
  clear hb1
  go_wp2
  go_loopw [3, 14] (fun v3 v14 w' => ∃ j : Nat, j ≤ cn ∧ v14 = .int .i64 j ∧ (∃ g : Bool, v3 = .bool g ∧ Hid (g = (p.main.all stmtB && (p.classes.take j).all classB))) ∧ Hid (Below w.heap.size w w')) (fun _ v14 _ => cn - (intOf v14).toNat)
  case atStart => exact ⟨0, by omega, rfl, ⟨_, rfl, by show _ = _; simp⟩, HB1⟩
  case round =>
    obtain ⟨j, hj, rfl, ⟨g, rfl, HGJ⟩, HB⟩ := hrel
    by_cases hlt : j < cn
    · obtain ⟨x, hx⟩ : ∃ x, p.classes[j]? = some x := ⟨_, List.getElem?_eq_getElem (by rw [HN.out]; exact hlt)⟩
      have HX := Lib.hid hx
      clear hx
      obtain ⟨b, off, cs, rfl, hbl, hc, fv, mv, rfl, wn, wu, hf, hm⟩ := H.out j _ HX.out
      have HF := Lib.hid hf
      obtain ⟨fa, fn, fcap, rfl⟩ := RSl.shape hf
      obtain ⟨a, n, cap, rfl, hn, hcap1, hmax1, hel⟩ := hm
      obtain ⟨c0, c1, c2, c3, -⟩ := cellsAt_of_block (HB.out.block b hbl) hc
      have H2 := Lib.hid hel
      have HN2 := Lib.hid hn
      unfold maxC at hmax1
      clear hel hn hf hc
      obtain ⟨wo, rfl⟩ : ∃ wo : World, wo = wr := ⟨_, rfl⟩
      obtain ⟨G, hGD⟩ : ∃ G, G = (p.main.all stmtB && (p.classes.take j).all classB && classTop x) := ⟨_, rfl⟩
      have HGD := Lib.hid hGD
      clear hGD
      cases g with
      | false =>
        have HG : Hid (G = false) := by show G = false; rw [HGD.out, ← HGJ.out]; rfl
        have HBI : Hid (∀ X, Hid (Below w.heap.size w (wo.alloc X))) := fun X => HB.out.alloc HB.out.size X
        have HBI := HBI.out
        go_wp2
        go_loopw [3, 42] (fun v3 v42 w' => ∃ k : Nat, k ≤ n ∧ v42 = .int .i64 k ∧ (∃ gk : Bool, v3 = .bool gk ∧ Hid (gk = (G && (x.methods.take k).all methodB))) ∧ Hid (Below w.heap.size w w')) (fun _ v42 _ => n - (intOf v42).toNat)
        case atStart => exact ⟨0, by omega, rfl, ⟨false, rfl, by show false = _; rw [HG.out]; simp⟩, HBI _⟩
        case round =>
          obtain ⟨k, hk, rfl, ⟨gk, rfl, HGK⟩, HBR⟩ := hrel
          by_cases hlt2 : k < n
          · obtain ⟨y, hy⟩ : ∃ y, x.methods[k]? = some y := ⟨_, List.getElem?_eq_getElem (by rw [HN2.out]; exact hlt2)⟩
            have HY := Lib.hid hy
            clear hy
            obtain ⟨b', off', cs', rfl, hbl', hc, pv, bv, rfl, wt, ws, hpv, hbv⟩ := H2.out k _ HY.out
            have HPV := Lib.hid hpv
            have HBV := Lib.hid hbv
            obtain ⟨pa, pn, pcap, rfl, hpn, hpc, hpm, -⟩ := hpv
            obtain ⟨ba, bn, bcap, rfl⟩ := RSl.shape hbv
            obtain ⟨e0, e1, e2, e3, -⟩ := cellsAt_of_block (HBR.out.block b' hbl') hc
            have HPN := Lib.hid hpn
            unfold maxC at hpm
            clear hbv hc hpn
            cases gk with
            | false =>
              have HBE : Hid (∀ X, Below w.heap.size w (wr.alloc X)) := fun X => HBR.out.alloc HBR.out.size X
              have HGN : Hid (false = (G && (x.methods.take (k + 1)).all methodB)) := by
                show false = _
                rw [all_take_succ HY.out, ← Bool.and_assoc, ← HGK.out]; rfl
              go_wp2
              refine ⟨?_, by simp [intOf]; omega⟩
              first
                | exact ⟨k + 1, by omega, by go_num, ⟨false, rfl, HGN⟩, HBE.out _⟩
                | ((repeat apply Exists.intro)
                   refine ⟨⟨k + 1, by omega, ?_, ⟨false, rfl, HGN⟩, HBE.out _⟩, rfl⟩
                   go_num)
            | true =>
              have HBA : Hid (∀ X, Below w.heap.size w (wr.alloc X)) := fun X => HBR.out.alloc HBR.out.size X
              go_wp2_with fail
              refine (slot_any _ _ wt ws _ (HM.out.keep (HBA.out _))).mono ?_
              rintro e w1 ⟨rfl, hb1⟩
              have HBE : Hid (Below w.heap.size w w1) := afterCall (HBA.out _) hb1
              have q2 : w1.cell? ⟨wr.heap.size, 2, none⟩ = some (.slice pa pn pcap) := (hb1.cell (by simp)).trans (by simp)
              have q3 : w1.cell? ⟨wr.heap.size, 3, none⟩ = some (.slice ba bn bcap) := (hb1.cell (by simp)).trans (by simp)
              clear hb1 e0 e1 e2 e3 HBA
              cases h1 : slotB ⟨y.type, y.name⟩ with
              | false =>
                have HGN : Hid (false = (G && (x.methods.take (k + 1)).all methodB)) := by
                  show false = _
                  rw [all_take_succ HY.out, ← Bool.and_assoc, ← HGK.out]
                  simp [methodB, *]
                go_wp2
                refine ⟨?_, by simp [intOf]; omega⟩
                first
                  | exact ⟨k + 1, by omega, by go_num, ⟨false, rfl, HGN⟩, HBE⟩
                  | ((repeat apply Exists.intro)
                     refine ⟨⟨k + 1, by omega, ?_, ⟨false, rfl, HGN⟩, HBE⟩, rfl⟩
                     go_num)
              | true =>
                by_cases hp4 : pn ≤ 4
                · have h2 : decide (y.params.length ≤ 4) = true := by rw [HPN.out]; simp [hp4]
                  have H2' := Lib.hid h2
                  clear h2
                  go_wp2_with fail
                  refine (slots_any w1 (HM.out.keep HBE.out) _ y.params (HPV.out.mono (fun k hk => Nat.lt_of_lt_of_le hk HBE.out.size) (fun k hk => HBE.out.block k hk))).mono ?_
                  rintro e w2 ⟨rfl, hb2⟩
                  have HBE1 := HBE
                  clear HBE
                  have HBE := nextB hb2 HBE1
                  have r3 := next (o := 3) hb2 q3
                  clear hb2 q2 q3 HBE1
                  cases h3 : y.params.all slotB with
                  | false =>
                    have h2 := H2'.out
                    have HGN : Hid (false = (G && (x.methods.take (k + 1)).all methodB)) := by
                      show false = _
                      rw [all_take_succ HY.out, ← Bool.and_assoc, ← HGK.out]
                      simp [methodB, *]
                    go_wp2
                    refine ⟨?_, by simp [intOf]; omega⟩
                    first
                      | exact ⟨k + 1, by omega, by go_num, ⟨false, rfl, HGN⟩, HBE⟩
                      | ((repeat apply Exists.intro)
                         refine ⟨⟨k + 1, by omega, ?_, ⟨false, rfl, HGN⟩, HBE⟩, rfl⟩
                         go_num)
                  | true =>
                    go_wp2_with fail
                    refine (stmts_any d w2 _ y.body (HM.out.keep HBE.out) (HBV.out.mono (fun k hk => Nat.lt_of_lt_of_le hk HBE.out.size) (fun k hk => HBE.out.block k hk))).mono ?_
                    rintro e w3 ⟨rfl, hb3⟩
                    have HBE1 := HBE
                    clear HBE
                    have HBE := nextB hb3 HBE1
                    clear hb3 r3 HBE1
                    cases h4 : y.body.all stmtB with
                    | false =>
                      have h2 := H2'.out
                      have HGN : Hid (false = (G && (x.methods.take (k + 1)).all methodB)) := by
                        show false = _
                        rw [all_take_succ HY.out, ← Bool.and_assoc, ← HGK.out]
                        simp [methodB, *]
                      go_wp2
                      refine ⟨?_, by simp [intOf]; omega⟩
                      first
                        | exact ⟨k + 1, by omega, by go_num, ⟨false, rfl, HGN⟩, HBE⟩
                        | ((repeat apply Exists.intro)
                           refine ⟨⟨k + 1, by omega, ?_, ⟨false, rfl, HGN⟩, HBE⟩, rfl⟩
                           go_num)
                    | true =>
                      have h2 := H2'.out
                      have HGN : Hid (true = (G && (x.methods.take (k + 1)).all methodB)) := by
                        show true = _
                        rw [all_take_succ HY.out, ← Bool.and_assoc, ← HGK.out]
                        simp [methodB, *]
                      go_wp2
                      refine ⟨?_, by simp [intOf]; omega⟩
                      first
                        | exact ⟨k + 1, by omega, by go_num, ⟨true, rfl, HGN⟩, HBE⟩
                        | ((repeat apply Exists.intro)
                           refine ⟨⟨k + 1, by omega, ?_, ⟨true, rfl, HGN⟩, HBE⟩, rfl⟩
                           go_num)
                · have h2 : decide (y.params.length ≤ 4) = false := by rw [HPN.out]; simp; omega
                  have hgt : ¬ pn ≤ 4 := hp4
                  have HGN : Hid (false = (G && (x.methods.take (k + 1)).all methodB)) := by
                    show false = _
                    rw [all_take_succ HY.out, ← Bool.and_assoc, ← HGK.out]
                    simp [methodB, *]
                  go_wp2
                  refine ⟨?_, by simp [intOf]; omega⟩
                  first
                    | exact ⟨k + 1, by omega, by go_num, ⟨false, rfl, HGN⟩, HBE⟩
                    | ((repeat apply Exists.intro)
                       refine ⟨⟨k + 1, by omega, ?_, ⟨false, rfl, HGN⟩, HBE⟩, rfl⟩
                       go_num)
          · obtain rfl : k = n := by omega
            go_wp2
            have et := List.take_of_length_le (l := x.methods) (i := k) (by rw [HN2.out]; exact Nat.le_refl _)
            have HGN : Hid (gk = (p.main.all stmtB && (p.classes.take (j + 1)).all classB)) := by
              show gk = _
              rw [all_take_succ HX.out, HGK.out, et, HGD.out]
              simp [classB, Bool.and_assoc]
            refine ⟨?_, by simp [intOf]; omega⟩
            first
              | exact ⟨j + 1, by omega, by go_num, ⟨gk, rfl, HGN⟩, HBR⟩
              | ((repeat apply Exists.intro)
                 refine ⟨⟨j + 1, by omega, ?_, ⟨gk, rfl, HGN⟩, HBR⟩, rfl⟩
                 go_num)
      | true =>
        have HBA : Hid (∀ X, Below w.heap.size w (wo.alloc X)) := fun X => HB.out.alloc HB.out.size X
        go_wp2_with fail
        refine (name_in (HM.out.keep (HBA.out _)) _ wn).mono ?_
        rintro e w' ⟨rfl, rfl⟩
        cases h1 : isNameB x.name with
        | false =>
          have HG : Hid (G = false) := by show G = false; rw [HGD.out]; simp [classTop, h1]
          go_wp2
          go_loopw [3, 42] (fun v3 v42 w' => ∃ k : Nat, k ≤ n ∧ v42 = .int .i64 k ∧ (∃ gk : Bool, v3 = .bool gk ∧ Hid (gk = (G && (x.methods.take k).all methodB))) ∧ Hid (Below w.heap.size w w')) (fun _ v42 _ => n - (intOf v42).toNat)
          case atStart => exact ⟨0, by omega, rfl, ⟨false, rfl, by show false = _; rw [HG.out]; simp⟩, HBA.out _⟩
          case round =>
            obtain ⟨k, hk, rfl, ⟨gk, rfl, HGK⟩, HBR⟩ := hrel
            by_cases hlt2 : k < n
            · obtain ⟨y, hy⟩ : ∃ y, x.methods[k]? = some y := ⟨_, List.getElem?_eq_getElem (by rw [HN2.out]; exact hlt2)⟩
              have HY := Lib.hid hy
              clear hy
              obtain ⟨b', off', cs', rfl, hbl', hc, pv, bv, rfl, wt, ws, hpv, hbv⟩ := H2.out k _ HY.out
              have HPV := Lib.hid hpv
              have HBV := Lib.hid hbv
              obtain ⟨pa, pn, pcap, rfl, hpn, hpc, hpm, -⟩ := hpv
              obtain ⟨ba, bn, bcap, rfl⟩ := RSl.shape hbv
              obtain ⟨e0, e1, e2, e3, -⟩ := cellsAt_of_block (HBR.out.block b' hbl') hc
              have HPN := Lib.hid hpn
              unfold maxC at hpm
              clear hbv hc hpn
              cases gk with
              | false =>
                have HBE : Hid (∀ X, Below w.heap.size w (wr.alloc X)) := fun X => HBR.out.alloc HBR.out.size X
                have HGN : Hid (false = (G && (x.methods.take (k + 1)).all methodB)) := by
                  show false = _
                  rw [all_take_succ HY.out, ← Bool.and_assoc, ← HGK.out]; rfl
                go_wp2
                refine ⟨?_, by simp [intOf]; omega⟩
                first
                  | exact ⟨k + 1, by omega, by go_num, ⟨false, rfl, HGN⟩, HBE.out _⟩
                  | ((repeat apply Exists.intro)
                     refine ⟨⟨k + 1, by omega, ?_, ⟨false, rfl, HGN⟩, HBE.out _⟩, rfl⟩
                     go_num)
              | true =>
                have HBA : Hid (∀ X, Below w.heap.size w (wr.alloc X)) := fun X => HBR.out.alloc HBR.out.size X
                go_wp2_with fail
                refine (slot_any _ _ wt ws _ (HM.out.keep (HBA.out _))).mono ?_
                rintro e w1 ⟨rfl, hb1⟩
                have HBE : Hid (Below w.heap.size w w1) := afterCall (HBA.out _) hb1
                have q2 : w1.cell? ⟨wr.heap.size, 2, none⟩ = some (.slice pa pn pcap) := (hb1.cell (by simp)).trans (by simp)
                have q3 : w1.cell? ⟨wr.heap.size, 3, none⟩ = some (.slice ba bn bcap) := (hb1.cell (by simp)).trans (by simp)
                clear hb1 e0 e1 e2 e3 HBA
                cases h1 : slotB ⟨y.type, y.name⟩ with
                | false =>
                  have HGN : Hid (false = (G && (x.methods.take (k + 1)).all methodB)) := by
                    show false = _
                    rw [all_take_succ HY.out, ← Bool.and_assoc, ← HGK.out]
                    simp [methodB, *]
                  go_wp2
                  refine ⟨?_, by simp [intOf]; omega⟩
                  first
                    | exact ⟨k + 1, by omega, by go_num, ⟨false, rfl, HGN⟩, HBE⟩
                    | ((repeat apply Exists.intro)
                       refine ⟨⟨k + 1, by omega, ?_, ⟨false, rfl, HGN⟩, HBE⟩, rfl⟩
                       go_num)
                | true =>
                  by_cases hp4 : pn ≤ 4
                  · have h2 : decide (y.params.length ≤ 4) = true := by rw [HPN.out]; simp [hp4]
                    have H2' := Lib.hid h2
                    clear h2
                    go_wp2_with fail
                    refine (slots_any w1 (HM.out.keep HBE.out) _ y.params (HPV.out.mono (fun k hk => Nat.lt_of_lt_of_le hk HBE.out.size) (fun k hk => HBE.out.block k hk))).mono ?_
                    rintro e w2 ⟨rfl, hb2⟩
                    have HBE1 := HBE
                    clear HBE
                    have HBE := nextB hb2 HBE1
                    have r3 := next (o := 3) hb2 q3
                    clear hb2 q2 q3 HBE1
                    cases h3 : y.params.all slotB with
                    | false =>
                      have h2 := H2'.out
                      have HGN : Hid (false = (G && (x.methods.take (k + 1)).all methodB)) := by
                        show false = _
                        rw [all_take_succ HY.out, ← Bool.and_assoc, ← HGK.out]
                        simp [methodB, *]
                      go_wp2
                      refine ⟨?_, by simp [intOf]; omega⟩
                      first
                        | exact ⟨k + 1, by omega, by go_num, ⟨false, rfl, HGN⟩, HBE⟩
                        | ((repeat apply Exists.intro)
                           refine ⟨⟨k + 1, by omega, ?_, ⟨false, rfl, HGN⟩, HBE⟩, rfl⟩
                           go_num)
                    | true =>
                      go_wp2_with fail
                      refine (stmts_any d w2 _ y.body (HM.out.keep HBE.out) (HBV.out.mono (fun k hk => Nat.lt_of_lt_of_le hk HBE.out.size) (fun k hk => HBE.out.block k hk))).mono ?_
                      rintro e w3 ⟨rfl, hb3⟩
                      have HBE1 := HBE
                      clear HBE
                      have HBE := nextB hb3 HBE1
                      clear hb3 r3 HBE1
                      cases h4 : y.body.all stmtB with
                      | false =>
                        have h2 := H2'.out
                        have HGN : Hid (false = (G && (x.methods.take (k + 1)).all methodB)) := by
                          show false = _
                          rw [all_take_succ HY.out, ← Bool.and_assoc, ← HGK.out]
                          simp [methodB, *]
                        go_wp2
                        refine ⟨?_, by simp [intOf]; omega⟩
                        first
                          | exact ⟨k + 1, by omega, by go_num, ⟨false, rfl, HGN⟩, HBE⟩
                          | ((repeat apply Exists.intro)
                             refine ⟨⟨k + 1, by omega, ?_, ⟨false, rfl, HGN⟩, HBE⟩, rfl⟩
                             go_num)
                      | true =>
                        have h2 := H2'.out
                        have HGN : Hid (true = (G && (x.methods.take (k + 1)).all methodB)) := by
                          show true = _
                          rw [all_take_succ HY.out, ← Bool.and_assoc, ← HGK.out]
                          simp [methodB, *]
                        go_wp2
                        refine ⟨?_, by simp [intOf]; omega⟩
                        first
                          | exact ⟨k + 1, by omega, by go_num, ⟨true, rfl, HGN⟩, HBE⟩
                          | ((repeat apply Exists.intro)
                             refine ⟨⟨k + 1, by omega, ?_, ⟨true, rfl, HGN⟩, HBE⟩, rfl⟩
                             go_num)
                  · have h2 : decide (y.params.length ≤ 4) = false := by rw [HPN.out]; simp; omega
                    have hgt : ¬ pn ≤ 4 := hp4
                    have HGN : Hid (false = (G && (x.methods.take (k + 1)).all methodB)) := by
                      show false = _
                      rw [all_take_succ HY.out, ← Bool.and_assoc, ← HGK.out]
                      simp [methodB, *]
                    go_wp2
                    refine ⟨?_, by simp [intOf]; omega⟩
                    first
                      | exact ⟨k + 1, by omega, by go_num, ⟨false, rfl, HGN⟩, HBE⟩
                      | ((repeat apply Exists.intro)
                         refine ⟨⟨k + 1, by omega, ?_, ⟨false, rfl, HGN⟩, HBE⟩, rfl⟩
                         go_num)
            · obtain rfl : k = n := by omega
              go_wp2
              have et := List.take_of_length_le (l := x.methods) (i := k) (by rw [HN2.out]; exact Nat.le_refl _)
              have HGN : Hid (gk = (p.main.all stmtB && (p.classes.take (j + 1)).all classB)) := by
                show gk = _
                rw [all_take_succ HX.out, HGK.out, et, HGD.out]
                simp [classB, Bool.and_assoc]
              refine ⟨?_, by simp [intOf]; omega⟩
              first
                | exact ⟨j + 1, by omega, by go_num, ⟨gk, rfl, HGN⟩, HBR⟩
                | ((repeat apply Exists.intro)
                   refine ⟨⟨j + 1, by omega, ?_, ⟨gk, rfl, HGN⟩, HBR⟩, rfl⟩
                   go_num)
        | true =>
          cases h2 : x.super.toList.isEmpty with
          | true =>
            have h2' : (x.super.toList.isEmpty) = true := h2
            go_wp2_with fail
            refine (slots_any _ (HM.out.keep (HBA.out _)) _ x.fields (HF.out.mono (fun k hk => Nat.lt_of_lt_of_le hk (HBA.out _).size) (fun k hk => (HBA.out _).block k hk))).mono ?_
            rintro e w2 ⟨rfl, hb2⟩
            have HBI : Hid (Below w.heap.size w w2) := afterCall (HBA.out _) hb2
            have q3 : w2.cell? ⟨wo.heap.size, 3, none⟩ = some (.slice a n cap) := (hb2.cell (by simp)).trans (by simp)
            clear hb2
            cases h4 : x.fields.all slotB with
            | false =>
              have HG : Hid (G = false) := by show G = false; rw [HGD.out]; simp [classTop, h4]
              go_wp2
              go_loopw [3, 42] (fun v3 v42 w' => ∃ k : Nat, k ≤ n ∧ v42 = .int .i64 k ∧ (∃ gk : Bool, v3 = .bool gk ∧ Hid (gk = (G && (x.methods.take k).all methodB))) ∧ Hid (Below w.heap.size w w')) (fun _ v42 _ => n - (intOf v42).toNat)
              case atStart => exact ⟨0, by omega, rfl, ⟨false, rfl, by show false = _; rw [HG.out]; simp⟩, HBI⟩
              case round =>
                obtain ⟨k, hk, rfl, ⟨gk, rfl, HGK⟩, HBR⟩ := hrel
                by_cases hlt2 : k < n
                · obtain ⟨y, hy⟩ : ∃ y, x.methods[k]? = some y := ⟨_, List.getElem?_eq_getElem (by rw [HN2.out]; exact hlt2)⟩
                  have HY := Lib.hid hy
                  clear hy
                  obtain ⟨b', off', cs', rfl, hbl', hc, pv, bv, rfl, wt, ws, hpv, hbv⟩ := H2.out k _ HY.out
                  have HPV := Lib.hid hpv
                  have HBV := Lib.hid hbv
                  obtain ⟨pa, pn, pcap, rfl, hpn, hpc, hpm, -⟩ := hpv
                  obtain ⟨ba, bn, bcap, rfl⟩ := RSl.shape hbv
                  obtain ⟨e0, e1, e2, e3, -⟩ := cellsAt_of_block (HBR.out.block b' hbl') hc
                  have HPN := Lib.hid hpn
                  unfold maxC at hpm
                  clear hbv hc hpn
                  cases gk with
                  | false =>
                    have HBE : Hid (∀ X, Below w.heap.size w (wr.alloc X)) := fun X => HBR.out.alloc HBR.out.size X
                    have HGN : Hid (false = (G && (x.methods.take (k + 1)).all methodB)) := by
                      show false = _
                      rw [all_take_succ HY.out, ← Bool.and_assoc, ← HGK.out]; rfl
                    go_wp2
                    refine ⟨?_, by simp [intOf]; omega⟩
                    first
                      | exact ⟨k + 1, by omega, by go_num, ⟨false, rfl, HGN⟩, HBE.out _⟩
                      | ((repeat apply Exists.intro)
                         refine ⟨⟨k + 1, by omega, ?_, ⟨false, rfl, HGN⟩, HBE.out _⟩, rfl⟩
                         go_num)
                  | true =>
                    have HBA : Hid (∀ X, Below w.heap.size w (wr.alloc X)) := fun X => HBR.out.alloc HBR.out.size X
                    go_wp2_with fail
                    refine (slot_any _ _ wt ws _ (HM.out.keep (HBA.out _))).mono ?_
                    rintro e w1 ⟨rfl, hb1⟩
                    have HBE : Hid (Below w.heap.size w w1) := afterCall (HBA.out _) hb1
                    have q2 : w1.cell? ⟨wr.heap.size, 2, none⟩ = some (.slice pa pn pcap) := (hb1.cell (by simp)).trans (by simp)
                    have q3 : w1.cell? ⟨wr.heap.size, 3, none⟩ = some (.slice ba bn bcap) := (hb1.cell (by simp)).trans (by simp)
                    clear hb1 e0 e1 e2 e3 HBA
                    cases h1 : slotB ⟨y.type, y.name⟩ with
                    | false =>
                      have HGN : Hid (false = (G && (x.methods.take (k + 1)).all methodB)) := by
                        show false = _
                        rw [all_take_succ HY.out, ← Bool.and_assoc, ← HGK.out]
                        simp [methodB, *]
                      go_wp2
                      refine ⟨?_, by simp [intOf]; omega⟩
                      first
                        | exact ⟨k + 1, by omega, by go_num, ⟨false, rfl, HGN⟩, HBE⟩
                        | ((repeat apply Exists.intro)
                           refine ⟨⟨k + 1, by omega, ?_, ⟨false, rfl, HGN⟩, HBE⟩, rfl⟩
                           go_num)
                    | true =>
                      by_cases hp4 : pn ≤ 4
                      · have h2 : decide (y.params.length ≤ 4) = true := by rw [HPN.out]; simp [hp4]
                        have H2' := Lib.hid h2
                        clear h2
                        go_wp2_with fail
                        refine (slots_any w1 (HM.out.keep HBE.out) _ y.params (HPV.out.mono (fun k hk => Nat.lt_of_lt_of_le hk HBE.out.size) (fun k hk => HBE.out.block k hk))).mono ?_
                        rintro e w2 ⟨rfl, hb2⟩
                        have HBE1 := HBE
                        clear HBE
                        have HBE := nextB hb2 HBE1
                        have r3 := next (o := 3) hb2 q3
                        clear hb2 q2 q3 HBE1
                        cases h3 : y.params.all slotB with
                        | false =>
                          have h2 := H2'.out
                          have HGN : Hid (false = (G && (x.methods.take (k + 1)).all methodB)) := by
                            show false = _
                            rw [all_take_succ HY.out, ← Bool.and_assoc, ← HGK.out]
                            simp [methodB, *]
                          go_wp2
                          refine ⟨?_, by simp [intOf]; omega⟩
                          first
                            | exact ⟨k + 1, by omega, by go_num, ⟨false, rfl, HGN⟩, HBE⟩
                            | ((repeat apply Exists.intro)
                               refine ⟨⟨k + 1, by omega, ?_, ⟨false, rfl, HGN⟩, HBE⟩, rfl⟩
                               go_num)
                        | true =>
                          go_wp2_with fail
                          refine (stmts_any d w2 _ y.body (HM.out.keep HBE.out) (HBV.out.mono (fun k hk => Nat.lt_of_lt_of_le hk HBE.out.size) (fun k hk => HBE.out.block k hk))).mono ?_
                          rintro e w3 ⟨rfl, hb3⟩
                          have HBE1 := HBE
                          clear HBE
                          have HBE := nextB hb3 HBE1
                          clear hb3 r3 HBE1
                          cases h4 : y.body.all stmtB with
                          | false =>
                            have h2 := H2'.out
                            have HGN : Hid (false = (G && (x.methods.take (k + 1)).all methodB)) := by
                              show false = _
                              rw [all_take_succ HY.out, ← Bool.and_assoc, ← HGK.out]
                              simp [methodB, *]
                            go_wp2
                            refine ⟨?_, by simp [intOf]; omega⟩
                            first
                              | exact ⟨k + 1, by omega, by go_num, ⟨false, rfl, HGN⟩, HBE⟩
                              | ((repeat apply Exists.intro)
                                 refine ⟨⟨k + 1, by omega, ?_, ⟨false, rfl, HGN⟩, HBE⟩, rfl⟩
                                 go_num)
                          | true =>
                            have h2 := H2'.out
                            have HGN : Hid (true = (G && (x.methods.take (k + 1)).all methodB)) := by
                              show true = _
                              rw [all_take_succ HY.out, ← Bool.and_assoc, ← HGK.out]
                              simp [methodB, *]
                            go_wp2
                            refine ⟨?_, by simp [intOf]; omega⟩
                            first
                              | exact ⟨k + 1, by omega, by go_num, ⟨true, rfl, HGN⟩, HBE⟩
                              | ((repeat apply Exists.intro)
                                 refine ⟨⟨k + 1, by omega, ?_, ⟨true, rfl, HGN⟩, HBE⟩, rfl⟩
                                 go_num)
                      · have h2 : decide (y.params.length ≤ 4) = false := by rw [HPN.out]; simp; omega
                        have hgt : ¬ pn ≤ 4 := hp4
                        have HGN : Hid (false = (G && (x.methods.take (k + 1)).all methodB)) := by
                          show false = _
                          rw [all_take_succ HY.out, ← Bool.and_assoc, ← HGK.out]
                          simp [methodB, *]
                        go_wp2
                        refine ⟨?_, by simp [intOf]; omega⟩
                        first
                          | exact ⟨k + 1, by omega, by go_num, ⟨false, rfl, HGN⟩, HBE⟩
                          | ((repeat apply Exists.intro)
                             refine ⟨⟨k + 1, by omega, ?_, ⟨false, rfl, HGN⟩, HBE⟩, rfl⟩
                             go_num)
                · obtain rfl : k = n := by omega
                  go_wp2
                  have et := List.take_of_length_le (l := x.methods) (i := k) (by rw [HN2.out]; exact Nat.le_refl _)
                  have HGN : Hid (gk = (p.main.all stmtB && (p.classes.take (j + 1)).all classB)) := by
                    show gk = _
                    rw [all_take_succ HX.out, HGK.out, et, HGD.out]
                    simp [classB, Bool.and_assoc]
                  refine ⟨?_, by simp [intOf]; omega⟩
                  first
                    | exact ⟨j + 1, by omega, by go_num, ⟨gk, rfl, HGN⟩, HBR⟩
                    | ((repeat apply Exists.intro)
                       refine ⟨⟨j + 1, by omega, ?_, ⟨gk, rfl, HGN⟩, HBR⟩, rfl⟩
                       go_num)
            | true =>
              have HG : Hid (G = true) := by show G = true; rw [HGD.out, ← HGJ.out]; simp [classTop, *]
              go_wp2
              go_loopw [3, 42] (fun v3 v42 w' => ∃ k : Nat, k ≤ n ∧ v42 = .int .i64 k ∧ (∃ gk : Bool, v3 = .bool gk ∧ Hid (gk = (G && (x.methods.take k).all methodB))) ∧ Hid (Below w.heap.size w w')) (fun _ v42 _ => n - (intOf v42).toNat)
              case atStart => exact ⟨0, by omega, rfl, ⟨true, rfl, by show true = _; rw [HG.out]; simp⟩, HBI⟩
              case round =>
                obtain ⟨k, hk, rfl, ⟨gk, rfl, HGK⟩, HBR⟩ := hrel
                by_cases hlt2 : k < n
                · obtain ⟨y, hy⟩ : ∃ y, x.methods[k]? = some y := ⟨_, List.getElem?_eq_getElem (by rw [HN2.out]; exact hlt2)⟩
                  have HY := Lib.hid hy
                  clear hy
                  obtain ⟨b', off', cs', rfl, hbl', hc, pv, bv, rfl, wt, ws, hpv, hbv⟩ := H2.out k _ HY.out
                  have HPV := Lib.hid hpv
                  have HBV := Lib.hid hbv
                  obtain ⟨pa, pn, pcap, rfl, hpn, hpc, hpm, -⟩ := hpv
                  obtain ⟨ba, bn, bcap, rfl⟩ := RSl.shape hbv
                  obtain ⟨e0, e1, e2, e3, -⟩ := cellsAt_of_block (HBR.out.block b' hbl') hc
                  have HPN := Lib.hid hpn
                  unfold maxC at hpm
                  clear hbv hc hpn
                  cases gk with
                  | false =>
                    have HBE : Hid (∀ X, Below w.heap.size w (wr.alloc X)) := fun X => HBR.out.alloc HBR.out.size X
                    have HGN : Hid (false = (G && (x.methods.take (k + 1)).all methodB)) := by
                      show false = _
                      rw [all_take_succ HY.out, ← Bool.and_assoc, ← HGK.out]; rfl
                    go_wp2
                    refine ⟨?_, by simp [intOf]; omega⟩
                    first
                      | exact ⟨k + 1, by omega, by go_num, ⟨false, rfl, HGN⟩, HBE.out _⟩
                      | ((repeat apply Exists.intro)
                         refine ⟨⟨k + 1, by omega, ?_, ⟨false, rfl, HGN⟩, HBE.out _⟩, rfl⟩
                         go_num)
                  | true =>
                    have HBA : Hid (∀ X, Below w.heap.size w (wr.alloc X)) := fun X => HBR.out.alloc HBR.out.size X
                    go_wp2_with fail
                    refine (slot_any _ _ wt ws _ (HM.out.keep (HBA.out _))).mono ?_
                    rintro e w1 ⟨rfl, hb1⟩
                    have HBE : Hid (Below w.heap.size w w1) := afterCall (HBA.out _) hb1
                    have q2 : w1.cell? ⟨wr.heap.size, 2, none⟩ = some (.slice pa pn pcap) := (hb1.cell (by simp)).trans (by simp)
                    have q3 : w1.cell? ⟨wr.heap.size, 3, none⟩ = some (.slice ba bn bcap) := (hb1.cell (by simp)).trans (by simp)
                    clear hb1 e0 e1 e2 e3 HBA
                    cases h1 : slotB ⟨y.type, y.name⟩ with
                    | false =>
                      have HGN : Hid (false = (G && (x.methods.take (k + 1)).all methodB)) := by
                        show false = _
                        rw [all_take_succ HY.out, ← Bool.and_assoc, ← HGK.out]
                        simp [methodB, *]
                      go_wp2
                      refine ⟨?_, by simp [intOf]; omega⟩
                      first
                        | exact ⟨k + 1, by omega, by go_num, ⟨false, rfl, HGN⟩, HBE⟩
                        | ((repeat apply Exists.intro)
                           refine ⟨⟨k + 1, by omega, ?_, ⟨false, rfl, HGN⟩, HBE⟩, rfl⟩
                           go_num)
                    | true =>
                      by_cases hp4 : pn ≤ 4
                      · have h2 : decide (y.params.length ≤ 4) = true := by rw [HPN.out]; simp [hp4]
                        have H2' := Lib.hid h2
                        clear h2
                        go_wp2_with fail
                        refine (slots_any w1 (HM.out.keep HBE.out) _ y.params (HPV.out.mono (fun k hk => Nat.lt_of_lt_of_le hk HBE.out.size) (fun k hk => HBE.out.block k hk))).mono ?_
                        rintro e w2 ⟨rfl, hb2⟩
                        have HBE1 := HBE
                        clear HBE
                        have HBE := nextB hb2 HBE1
                        have r3 := next (o := 3) hb2 q3
                        clear hb2 q2 q3 HBE1
                        cases h3 : y.params.all slotB with
                        | false =>
                          have h2 := H2'.out
                          have HGN : Hid (false = (G && (x.methods.take (k + 1)).all methodB)) := by
                            show false = _
                            rw [all_take_succ HY.out, ← Bool.and_assoc, ← HGK.out]
                            simp [methodB, *]
                          go_wp2
                          refine ⟨?_, by simp [intOf]; omega⟩
                          first
                            | exact ⟨k + 1, by omega, by go_num, ⟨false, rfl, HGN⟩, HBE⟩
                            | ((repeat apply Exists.intro)
                               refine ⟨⟨k + 1, by omega, ?_, ⟨false, rfl, HGN⟩, HBE⟩, rfl⟩
                               go_num)
                        | true =>
                          go_wp2_with fail
                          refine (stmts_any d w2 _ y.body (HM.out.keep HBE.out) (HBV.out.mono (fun k hk => Nat.lt_of_lt_of_le hk HBE.out.size) (fun k hk => HBE.out.block k hk))).mono ?_
                          rintro e w3 ⟨rfl, hb3⟩
                          have HBE1 := HBE
                          clear HBE
                          have HBE := nextB hb3 HBE1
                          clear hb3 r3 HBE1
                          cases h4 : y.body.all stmtB with
                          | false =>
                            have h2 := H2'.out
                            have HGN : Hid (false = (G && (x.methods.take (k + 1)).all methodB)) := by
                              show false = _
                              rw [all_take_succ HY.out, ← Bool.and_assoc, ← HGK.out]
                              simp [methodB, *]
                            go_wp2
                            refine ⟨?_, by simp [intOf]; omega⟩
                            first
                              | exact ⟨k + 1, by omega, by go_num, ⟨false, rfl, HGN⟩, HBE⟩
                              | ((repeat apply Exists.intro)
                                 refine ⟨⟨k + 1, by omega, ?_, ⟨false, rfl, HGN⟩, HBE⟩, rfl⟩
                                 go_num)
                          | true =>
                            have h2 := H2'.out
                            have HGN : Hid (true = (G && (x.methods.take (k + 1)).all methodB)) := by
                              show true = _
                              rw [all_take_succ HY.out, ← Bool.and_assoc, ← HGK.out]
                              simp [methodB, *]
                            go_wp2
                            refine ⟨?_, by simp [intOf]; omega⟩
                            first
                              | exact ⟨k + 1, by omega, by go_num, ⟨true, rfl, HGN⟩, HBE⟩
                              | ((repeat apply Exists.intro)
                                 refine ⟨⟨k + 1, by omega, ?_, ⟨true, rfl, HGN⟩, HBE⟩, rfl⟩
                                 go_num)
                      · have h2 : decide (y.params.length ≤ 4) = false := by rw [HPN.out]; simp; omega
                        have hgt : ¬ pn ≤ 4 := hp4
                        have HGN : Hid (false = (G && (x.methods.take (k + 1)).all methodB)) := by
                          show false = _
                          rw [all_take_succ HY.out, ← Bool.and_assoc, ← HGK.out]
                          simp [methodB, *]
                        go_wp2
                        refine ⟨?_, by simp [intOf]; omega⟩
                        first
                          | exact ⟨k + 1, by omega, by go_num, ⟨false, rfl, HGN⟩, HBE⟩
                          | ((repeat apply Exists.intro)
                             refine ⟨⟨k + 1, by omega, ?_, ⟨false, rfl, HGN⟩, HBE⟩, rfl⟩
                             go_num)
                · obtain rfl : k = n := by omega
                  go_wp2
                  have et := List.take_of_length_le (l := x.methods) (i := k) (by rw [HN2.out]; exact Nat.le_refl _)
                  have HGN : Hid (gk = (p.main.all stmtB && (p.classes.take (j + 1)).all classB)) := by
                    show gk = _
                    rw [all_take_succ HX.out, HGK.out, et, HGD.out]
                    simp [classB, Bool.and_assoc]
                  refine ⟨?_, by simp [intOf]; omega⟩
                  first
                    | exact ⟨j + 1, by omega, by go_num, ⟨gk, rfl, HGN⟩, HBR⟩
                    | ((repeat apply Exists.intro)
                       refine ⟨⟨j + 1, by omega, ?_, ⟨gk, rfl, HGN⟩, HBR⟩, rfl⟩
                       go_num)
          | false =>
            have h2' : x.super.toList.isEmpty = false := h2
            go_wp2_with fail
            refine (name_in (HM.out.keep (HBA.out _)) _ wu).mono ?_
            rintro e w' ⟨rfl, rfl⟩
            cases h3 : isNameB x.super with
            | false =>
              have HG : Hid (G = false) := by show G = false; rw [HGD.out]; simp [classTop, h1, h3, h2']
              go_wp2
              go_loopw [3, 42] (fun v3 v42 w' => ∃ k : Nat, k ≤ n ∧ v42 = .int .i64 k ∧ (∃ gk : Bool, v3 = .bool gk ∧ Hid (gk = (G && (x.methods.take k).all methodB))) ∧ Hid (Below w.heap.size w w')) (fun _ v42 _ => n - (intOf v42).toNat)
              case atStart => exact ⟨0, by omega, rfl, ⟨false, rfl, by show false = _; rw [HG.out]; simp⟩, HBA.out _⟩
              case round =>
                obtain ⟨k, hk, rfl, ⟨gk, rfl, HGK⟩, HBR⟩ := hrel
                by_cases hlt2 : k < n
                · obtain ⟨y, hy⟩ : ∃ y, x.methods[k]? = some y := ⟨_, List.getElem?_eq_getElem (by rw [HN2.out]; exact hlt2)⟩
                  have HY := Lib.hid hy
                  clear hy
                  obtain ⟨b', off', cs', rfl, hbl', hc, pv, bv, rfl, wt, ws, hpv, hbv⟩ := H2.out k _ HY.out
                  have HPV := Lib.hid hpv
                  have HBV := Lib.hid hbv
                  obtain ⟨pa, pn, pcap, rfl, hpn, hpc, hpm, -⟩ := hpv
                  obtain ⟨ba, bn, bcap, rfl⟩ := RSl.shape hbv
                  obtain ⟨e0, e1, e2, e3, -⟩ := cellsAt_of_block (HBR.out.block b' hbl') hc
                  have HPN := Lib.hid hpn
                  unfold maxC at hpm
                  clear hbv hc hpn
                  cases gk with
                  | false =>
                    have HBE : Hid (∀ X, Below w.heap.size w (wr.alloc X)) := fun X => HBR.out.alloc HBR.out.size X
                    have HGN : Hid (false = (G && (x.methods.take (k + 1)).all methodB)) := by
                      show false = _
                      rw [all_take_succ HY.out, ← Bool.and_assoc, ← HGK.out]; rfl
                    go_wp2
                    refine ⟨?_, by simp [intOf]; omega⟩
                    first
                      | exact ⟨k + 1, by omega, by go_num, ⟨false, rfl, HGN⟩, HBE.out _⟩
                      | ((repeat apply Exists.intro)
                         refine ⟨⟨k + 1, by omega, ?_, ⟨false, rfl, HGN⟩, HBE.out _⟩, rfl⟩
                         go_num)
                  | true =>
                    have HBA : Hid (∀ X, Below w.heap.size w (wr.alloc X)) := fun X => HBR.out.alloc HBR.out.size X
                    go_wp2_with fail
                    refine (slot_any _ _ wt ws _ (HM.out.keep (HBA.out _))).mono ?_
                    rintro e w1 ⟨rfl, hb1⟩
                    have HBE : Hid (Below w.heap.size w w1) := afterCall (HBA.out _) hb1
                    have q2 : w1.cell? ⟨wr.heap.size, 2, none⟩ = some (.slice pa pn pcap) := (hb1.cell (by simp)).trans (by simp)
                    have q3 : w1.cell? ⟨wr.heap.size, 3, none⟩ = some (.slice ba bn bcap) := (hb1.cell (by simp)).trans (by simp)
                    clear hb1 e0 e1 e2 e3 HBA
                    cases h1 : slotB ⟨y.type, y.name⟩ with
                    | false =>
                      have HGN : Hid (false = (G && (x.methods.take (k + 1)).all methodB)) := by
                        show false = _
                        rw [all_take_succ HY.out, ← Bool.and_assoc, ← HGK.out]
                        simp [methodB, *]
                      go_wp2
                      refine ⟨?_, by simp [intOf]; omega⟩
                      first
                        | exact ⟨k + 1, by omega, by go_num, ⟨false, rfl, HGN⟩, HBE⟩
                        | ((repeat apply Exists.intro)
                           refine ⟨⟨k + 1, by omega, ?_, ⟨false, rfl, HGN⟩, HBE⟩, rfl⟩
                           go_num)
                    | true =>
                      by_cases hp4 : pn ≤ 4
                      · have h2 : decide (y.params.length ≤ 4) = true := by rw [HPN.out]; simp [hp4]
                        have H2' := Lib.hid h2
                        clear h2
                        go_wp2_with fail
                        refine (slots_any w1 (HM.out.keep HBE.out) _ y.params (HPV.out.mono (fun k hk => Nat.lt_of_lt_of_le hk HBE.out.size) (fun k hk => HBE.out.block k hk))).mono ?_
                        rintro e w2 ⟨rfl, hb2⟩
                        have HBE1 := HBE
                        clear HBE
                        have HBE := nextB hb2 HBE1
                        have r3 := next (o := 3) hb2 q3
                        clear hb2 q2 q3 HBE1
                        cases h3 : y.params.all slotB with
                        | false =>
                          have h2 := H2'.out
                          have HGN : Hid (false = (G && (x.methods.take (k + 1)).all methodB)) := by
                            show false = _
                            rw [all_take_succ HY.out, ← Bool.and_assoc, ← HGK.out]
                            simp [methodB, *]
                          go_wp2
                          refine ⟨?_, by simp [intOf]; omega⟩
                          first
                            | exact ⟨k + 1, by omega, by go_num, ⟨false, rfl, HGN⟩, HBE⟩
                            | ((repeat apply Exists.intro)
                               refine ⟨⟨k + 1, by omega, ?_, ⟨false, rfl, HGN⟩, HBE⟩, rfl⟩
                               go_num)
                        | true =>
                          go_wp2_with fail
                          refine (stmts_any d w2 _ y.body (HM.out.keep HBE.out) (HBV.out.mono (fun k hk => Nat.lt_of_lt_of_le hk HBE.out.size) (fun k hk => HBE.out.block k hk))).mono ?_
                          rintro e w3 ⟨rfl, hb3⟩
                          have HBE1 := HBE
                          clear HBE
                          have HBE := nextB hb3 HBE1
                          clear hb3 r3 HBE1
                          cases h4 : y.body.all stmtB with
                          | false =>
                            have h2 := H2'.out
                            have HGN : Hid (false = (G && (x.methods.take (k + 1)).all methodB)) := by
                              show false = _
                              rw [all_take_succ HY.out, ← Bool.and_assoc, ← HGK.out]
                              simp [methodB, *]
                            go_wp2
                            refine ⟨?_, by simp [intOf]; omega⟩
                            first
                              | exact ⟨k + 1, by omega, by go_num, ⟨false, rfl, HGN⟩, HBE⟩
                              | ((repeat apply Exists.intro)
                                 refine ⟨⟨k + 1, by omega, ?_, ⟨false, rfl, HGN⟩, HBE⟩, rfl⟩
                                 go_num)
                          | true =>
                            have h2 := H2'.out
                            have HGN : Hid (true = (G && (x.methods.take (k + 1)).all methodB)) := by
                              show true = _
                              rw [all_take_succ HY.out, ← Bool.and_assoc, ← HGK.out]
                              simp [methodB, *]
                            go_wp2
                            refine ⟨?_, by simp [intOf]; omega⟩
                            first
                              | exact ⟨k + 1, by omega, by go_num, ⟨true, rfl, HGN⟩, HBE⟩
                              | ((repeat apply Exists.intro)
                                 refine ⟨⟨k + 1, by omega, ?_, ⟨true, rfl, HGN⟩, HBE⟩, rfl⟩
                                 go_num)
                      · have h2 : decide (y.params.length ≤ 4) = false := by rw [HPN.out]; simp; omega
                        have hgt : ¬ pn ≤ 4 := hp4
                        have HGN : Hid (false = (G && (x.methods.take (k + 1)).all methodB)) := by
                          show false = _
                          rw [all_take_succ HY.out, ← Bool.and_assoc, ← HGK.out]
                          simp [methodB, *]
                        go_wp2
                        refine ⟨?_, by simp [intOf]; omega⟩
                        first
                          | exact ⟨k + 1, by omega, by go_num, ⟨false, rfl, HGN⟩, HBE⟩
                          | ((repeat apply Exists.intro)
                             refine ⟨⟨k + 1, by omega, ?_, ⟨false, rfl, HGN⟩, HBE⟩, rfl⟩
                             go_num)
                · obtain rfl : k = n := by omega
                  go_wp2
                  have et := List.take_of_length_le (l := x.methods) (i := k) (by rw [HN2.out]; exact Nat.le_refl _)
                  have HGN : Hid (gk = (p.main.all stmtB && (p.classes.take (j + 1)).all classB)) := by
                    show gk = _
                    rw [all_take_succ HX.out, HGK.out, et, HGD.out]
                    simp [classB, Bool.and_assoc]
                  refine ⟨?_, by simp [intOf]; omega⟩
                  first
                    | exact ⟨j + 1, by omega, by go_num, ⟨gk, rfl, HGN⟩, HBR⟩
                    | ((repeat apply Exists.intro)
                       refine ⟨⟨j + 1, by omega, ?_, ⟨gk, rfl, HGN⟩, HBR⟩, rfl⟩
                       go_num)
            | true =>
              go_wp2_with fail
              refine (slots_any _ (HM.out.keep (HBA.out _)) _ x.fields (HF.out.mono (fun k hk => Nat.lt_of_lt_of_le hk (HBA.out _).size) (fun k hk => (HBA.out _).block k hk))).mono ?_
              rintro e w2 ⟨rfl, hb2⟩
              have HBI : Hid (Below w.heap.size w w2) := afterCall (HBA.out _) hb2
              have q3 : w2.cell? ⟨wo.heap.size, 3, none⟩ = some (.slice a n cap) := (hb2.cell (by simp)).trans (by simp)
              clear hb2
              cases h4 : x.fields.all slotB with
              | false =>
                have HG : Hid (G = false) := by show G = false; rw [HGD.out]; simp [classTop, h4]
                go_wp2
                go_loopw [3, 42] (fun v3 v42 w' => ∃ k : Nat, k ≤ n ∧ v42 = .int .i64 k ∧ (∃ gk : Bool, v3 = .bool gk ∧ Hid (gk = (G && (x.methods.take k).all methodB))) ∧ Hid (Below w.heap.size w w')) (fun _ v42 _ => n - (intOf v42).toNat)
                case atStart => exact ⟨0, by omega, rfl, ⟨false, rfl, by show false = _; rw [HG.out]; simp⟩, HBI⟩
                case round =>
                  obtain ⟨k, hk, rfl, ⟨gk, rfl, HGK⟩, HBR⟩ := hrel
                  by_cases hlt2 : k < n
                  · obtain ⟨y, hy⟩ : ∃ y, x.methods[k]? = some y := ⟨_, List.getElem?_eq_getElem (by rw [HN2.out]; exact hlt2)⟩
                    have HY := Lib.hid hy
                    clear hy
                    obtain ⟨b', off', cs', rfl, hbl', hc, pv, bv, rfl, wt, ws, hpv, hbv⟩ := H2.out k _ HY.out
                    have HPV := Lib.hid hpv
                    have HBV := Lib.hid hbv
                    obtain ⟨pa, pn, pcap, rfl, hpn, hpc, hpm, -⟩ := hpv
                    obtain ⟨ba, bn, bcap, rfl⟩ := RSl.shape hbv
                    obtain ⟨e0, e1, e2, e3, -⟩ := cellsAt_of_block (HBR.out.block b' hbl') hc
                    have HPN := Lib.hid hpn
                    unfold maxC at hpm
                    clear hbv hc hpn
                    cases gk with
                    | false =>
                      have HBE : Hid (∀ X, Below w.heap.size w (wr.alloc X)) := fun X => HBR.out.alloc HBR.out.size X
                      have HGN : Hid (false = (G && (x.methods.take (k + 1)).all methodB)) := by
                        show false = _
                        rw [all_take_succ HY.out, ← Bool.and_assoc, ← HGK.out]; rfl
                      go_wp2
                      refine ⟨?_, by simp [intOf]; omega⟩
                      first
                        | exact ⟨k + 1, by omega, by go_num, ⟨false, rfl, HGN⟩, HBE.out _⟩
                        | ((repeat apply Exists.intro)
                           refine ⟨⟨k + 1, by omega, ?_, ⟨false, rfl, HGN⟩, HBE.out _⟩, rfl⟩
                           go_num)
                    | true =>
                      have HBA : Hid (∀ X, Below w.heap.size w (wr.alloc X)) := fun X => HBR.out.alloc HBR.out.size X
                      go_wp2_with fail
                      refine (slot_any _ _ wt ws _ (HM.out.keep (HBA.out _))).mono ?_
                      rintro e w1 ⟨rfl, hb1⟩
                      have HBE : Hid (Below w.heap.size w w1) := afterCall (HBA.out _) hb1
                      have q2 : w1.cell? ⟨wr.heap.size, 2, none⟩ = some (.slice pa pn pcap) := (hb1.cell (by simp)).trans (by simp)
                      have q3 : w1.cell? ⟨wr.heap.size, 3, none⟩ = some (.slice ba bn bcap) := (hb1.cell (by simp)).trans (by simp)
                      clear hb1 e0 e1 e2 e3 HBA
                      cases h1 : slotB ⟨y.type, y.name⟩ with
                      | false =>
                        have HGN : Hid (false = (G && (x.methods.take (k + 1)).all methodB)) := by
                          show false = _
                          rw [all_take_succ HY.out, ← Bool.and_assoc, ← HGK.out]
                          simp [methodB, *]
                        go_wp2
                        refine ⟨?_, by simp [intOf]; omega⟩
                        first
                          | exact ⟨k + 1, by omega, by go_num, ⟨false, rfl, HGN⟩, HBE⟩
                          | ((repeat apply Exists.intro)
                             refine ⟨⟨k + 1, by omega, ?_, ⟨false, rfl, HGN⟩, HBE⟩, rfl⟩
                             go_num)
                      | true =>
                        by_cases hp4 : pn ≤ 4
                        · have h2 : decide (y.params.length ≤ 4) = true := by rw [HPN.out]; simp [hp4]
                          have H2' := Lib.hid h2
                          clear h2
                          go_wp2_with fail
                          refine (slots_any w1 (HM.out.keep HBE.out) _ y.params (HPV.out.mono (fun k hk => Nat.lt_of_lt_of_le hk HBE.out.size) (fun k hk => HBE.out.block k hk))).mono ?_
                          rintro e w2 ⟨rfl, hb2⟩
                          have HBE1 := HBE
                          clear HBE
                          have HBE := nextB hb2 HBE1
                          have r3 := next (o := 3) hb2 q3
                          clear hb2 q2 q3 HBE1
                          cases h3 : y.params.all slotB with
                          | false =>
                            have h2 := H2'.out
                            have HGN : Hid (false = (G && (x.methods.take (k + 1)).all methodB)) := by
                              show false = _
                              rw [all_take_succ HY.out, ← Bool.and_assoc, ← HGK.out]
                              simp [methodB, *]
                            go_wp2
                            refine ⟨?_, by simp [intOf]; omega⟩
                            first
                              | exact ⟨k + 1, by omega, by go_num, ⟨false, rfl, HGN⟩, HBE⟩
                              | ((repeat apply Exists.intro)
                                 refine ⟨⟨k + 1, by omega, ?_, ⟨false, rfl, HGN⟩, HBE⟩, rfl⟩
                                 go_num)
                          | true =>
                            go_wp2_with fail
                            refine (stmts_any d w2 _ y.body (HM.out.keep HBE.out) (HBV.out.mono (fun k hk => Nat.lt_of_lt_of_le hk HBE.out.size) (fun k hk => HBE.out.block k hk))).mono ?_
                            rintro e w3 ⟨rfl, hb3⟩
                            have HBE1 := HBE
                            clear HBE
                            have HBE := nextB hb3 HBE1
                            clear hb3 r3 HBE1
                            cases h4 : y.body.all stmtB with
                            | false =>
                              have h2 := H2'.out
                              have HGN : Hid (false = (G && (x.methods.take (k + 1)).all methodB)) := by
                                show false = _
                                rw [all_take_succ HY.out, ← Bool.and_assoc, ← HGK.out]
                                simp [methodB, *]
                              go_wp2
                              refine ⟨?_, by simp [intOf]; omega⟩
                              first
                                | exact ⟨k + 1, by omega, by go_num, ⟨false, rfl, HGN⟩, HBE⟩
                                | ((repeat apply Exists.intro)
                                   refine ⟨⟨k + 1, by omega, ?_, ⟨false, rfl, HGN⟩, HBE⟩, rfl⟩
                                   go_num)
                            | true =>
                              have h2 := H2'.out
                              have HGN : Hid (true = (G && (x.methods.take (k + 1)).all methodB)) := by
                                show true = _
                                rw [all_take_succ HY.out, ← Bool.and_assoc, ← HGK.out]
                                simp [methodB, *]
                              go_wp2
                              refine ⟨?_, by simp [intOf]; omega⟩
                              first
                                | exact ⟨k + 1, by omega, by go_num, ⟨true, rfl, HGN⟩, HBE⟩
                                | ((repeat apply Exists.intro)
                                   refine ⟨⟨k + 1, by omega, ?_, ⟨true, rfl, HGN⟩, HBE⟩, rfl⟩
                                   go_num)
                        · have h2 : decide (y.params.length ≤ 4) = false := by rw [HPN.out]; simp; omega
                          have hgt : ¬ pn ≤ 4 := hp4
                          have HGN : Hid (false = (G && (x.methods.take (k + 1)).all methodB)) := by
                            show false = _
                            rw [all_take_succ HY.out, ← Bool.and_assoc, ← HGK.out]
                            simp [methodB, *]
                          go_wp2
                          refine ⟨?_, by simp [intOf]; omega⟩
                          first
                            | exact ⟨k + 1, by omega, by go_num, ⟨false, rfl, HGN⟩, HBE⟩
                            | ((repeat apply Exists.intro)
                               refine ⟨⟨k + 1, by omega, ?_, ⟨false, rfl, HGN⟩, HBE⟩, rfl⟩
                               go_num)
                  · obtain rfl : k = n := by omega
                    go_wp2
                    have et := List.take_of_length_le (l := x.methods) (i := k) (by rw [HN2.out]; exact Nat.le_refl _)
                    have HGN : Hid (gk = (p.main.all stmtB && (p.classes.take (j + 1)).all classB)) := by
                      show gk = _
                      rw [all_take_succ HX.out, HGK.out, et, HGD.out]
                      simp [classB, Bool.and_assoc]
                    refine ⟨?_, by simp [intOf]; omega⟩
                    first
                      | exact ⟨j + 1, by omega, by go_num, ⟨gk, rfl, HGN⟩, HBR⟩
                      | ((repeat apply Exists.intro)
                         refine ⟨⟨j + 1, by omega, ?_, ⟨gk, rfl, HGN⟩, HBR⟩, rfl⟩
                         go_num)
              | true =>
                have HG : Hid (G = true) := by show G = true; rw [HGD.out, ← HGJ.out]; simp [classTop, *]
                go_wp2
                go_loopw [3, 42] (fun v3 v42 w' => ∃ k : Nat, k ≤ n ∧ v42 = .int .i64 k ∧ (∃ gk : Bool, v3 = .bool gk ∧ Hid (gk = (G && (x.methods.take k).all methodB))) ∧ Hid (Below w.heap.size w w')) (fun _ v42 _ => n - (intOf v42).toNat)
                case atStart => exact ⟨0, by omega, rfl, ⟨true, rfl, by show true = _; rw [HG.out]; simp⟩, HBI⟩
                case round =>
                  obtain ⟨k, hk, rfl, ⟨gk, rfl, HGK⟩, HBR⟩ := hrel
                  by_cases hlt2 : k < n
                  · obtain ⟨y, hy⟩ : ∃ y, x.methods[k]? = some y := ⟨_, List.getElem?_eq_getElem (by rw [HN2.out]; exact hlt2)⟩
                    have HY := Lib.hid hy
                    clear hy
                    obtain ⟨b', off', cs', rfl, hbl', hc, pv, bv, rfl, wt, ws, hpv, hbv⟩ := H2.out k _ HY.out
                    have HPV := Lib.hid hpv
                    have HBV := Lib.hid hbv
                    obtain ⟨pa, pn, pcap, rfl, hpn, hpc, hpm, -⟩ := hpv
                    obtain ⟨ba, bn, bcap, rfl⟩ := RSl.shape hbv
                    obtain ⟨e0, e1, e2, e3, -⟩ := cellsAt_of_block (HBR.out.block b' hbl') hc
                    have HPN := Lib.hid hpn
                    unfold maxC at hpm
                    clear hbv hc hpn
                    cases gk with
                    | false =>
                      have HBE : Hid (∀ X, Below w.heap.size w (wr.alloc X)) := fun X => HBR.out.alloc HBR.out.size X
                      have HGN : Hid (false = (G && (x.methods.take (k + 1)).all methodB)) := by
                        show false = _
                        rw [all_take_succ HY.out, ← Bool.and_assoc, ← HGK.out]; rfl
                      go_wp2
                      refine ⟨?_, by simp [intOf]; omega⟩
                      first
                        | exact ⟨k + 1, by omega, by go_num, ⟨false, rfl, HGN⟩, HBE.out _⟩
                        | ((repeat apply Exists.intro)
                           refine ⟨⟨k + 1, by omega, ?_, ⟨false, rfl, HGN⟩, HBE.out _⟩, rfl⟩
                           go_num)
                    | true =>
                      have HBA : Hid (∀ X, Below w.heap.size w (wr.alloc X)) := fun X => HBR.out.alloc HBR.out.size X
                      go_wp2_with fail
                      refine (slot_any _ _ wt ws _ (HM.out.keep (HBA.out _))).mono ?_
                      rintro e w1 ⟨rfl, hb1⟩
                      have HBE : Hid (Below w.heap.size w w1) := afterCall (HBA.out _) hb1
                      have q2 : w1.cell? ⟨wr.heap.size, 2, none⟩ = some (.slice pa pn pcap) := (hb1.cell (by simp)).trans (by simp)
                      have q3 : w1.cell? ⟨wr.heap.size, 3, none⟩ = some (.slice ba bn bcap) := (hb1.cell (by simp)).trans (by simp)
                      clear hb1 e0 e1 e2 e3 HBA
                      cases h1 : slotB ⟨y.type, y.name⟩ with
                      | false =>
                        have HGN : Hid (false = (G && (x.methods.take (k + 1)).all methodB)) := by
                          show false = _
                          rw [all_take_succ HY.out, ← Bool.and_assoc, ← HGK.out]
                          simp [methodB, *]
                        go_wp2
                        refine ⟨?_, by simp [intOf]; omega⟩
                        first
                          | exact ⟨k + 1, by omega, by go_num, ⟨false, rfl, HGN⟩, HBE⟩
                          | ((repeat apply Exists.intro)
                             refine ⟨⟨k + 1, by omega, ?_, ⟨false, rfl, HGN⟩, HBE⟩, rfl⟩
                             go_num)
                      | true =>
                        by_cases hp4 : pn ≤ 4
                        · have h2 : decide (y.params.length ≤ 4) = true := by rw [HPN.out]; simp [hp4]
                          have H2' := Lib.hid h2
                          clear h2
                          go_wp2_with fail
                          refine (slots_any w1 (HM.out.keep HBE.out) _ y.params (HPV.out.mono (fun k hk => Nat.lt_of_lt_of_le hk HBE.out.size) (fun k hk => HBE.out.block k hk))).mono ?_
                          rintro e w2 ⟨rfl, hb2⟩
                          have HBE1 := HBE
                          clear HBE
                          have HBE := nextB hb2 HBE1
                          have r3 := next (o := 3) hb2 q3
                          clear hb2 q2 q3 HBE1
                          cases h3 : y.params.all slotB with
                          | false =>
                            have h2 := H2'.out
                            have HGN : Hid (false = (G && (x.methods.take (k + 1)).all methodB)) := by
                              show false = _
                              rw [all_take_succ HY.out, ← Bool.and_assoc, ← HGK.out]
                              simp [methodB, *]
                            go_wp2
                            refine ⟨?_, by simp [intOf]; omega⟩
                            first
                              | exact ⟨k + 1, by omega, by go_num, ⟨false, rfl, HGN⟩, HBE⟩
                              | ((repeat apply Exists.intro)
                                 refine ⟨⟨k + 1, by omega, ?_, ⟨false, rfl, HGN⟩, HBE⟩, rfl⟩
                                 go_num)
                          | true =>
                            go_wp2_with fail
                            refine (stmts_any d w2 _ y.body (HM.out.keep HBE.out) (HBV.out.mono (fun k hk => Nat.lt_of_lt_of_le hk HBE.out.size) (fun k hk => HBE.out.block k hk))).mono ?_
                            rintro e w3 ⟨rfl, hb3⟩
                            have HBE1 := HBE
                            clear HBE
                            have HBE := nextB hb3 HBE1
                            clear hb3 r3 HBE1
                            cases h4 : y.body.all stmtB with
                            | false =>
                              have h2 := H2'.out
                              have HGN : Hid (false = (G && (x.methods.take (k + 1)).all methodB)) := by
                                show false = _
                                rw [all_take_succ HY.out, ← Bool.and_assoc, ← HGK.out]
                                simp [methodB, *]
                              go_wp2
                              refine ⟨?_, by simp [intOf]; omega⟩
                              first
                                | exact ⟨k + 1, by omega, by go_num, ⟨false, rfl, HGN⟩, HBE⟩
                                | ((repeat apply Exists.intro)
                                   refine ⟨⟨k + 1, by omega, ?_, ⟨false, rfl, HGN⟩, HBE⟩, rfl⟩
                                   go_num)
                            | true =>
                              have h2 := H2'.out
                              have HGN : Hid (true = (G && (x.methods.take (k + 1)).all methodB)) := by
                                show true = _
                                rw [all_take_succ HY.out, ← Bool.and_assoc, ← HGK.out]
                                simp [methodB, *]
                              go_wp2
                              refine ⟨?_, by simp [intOf]; omega⟩
                              first
                                | exact ⟨k + 1, by omega, by go_num, ⟨true, rfl, HGN⟩, HBE⟩
                                | ((repeat apply Exists.intro)
                                   refine ⟨⟨k + 1, by omega, ?_, ⟨true, rfl, HGN⟩, HBE⟩, rfl⟩
                                   go_num)
                        · have h2 : decide (y.params.length ≤ 4) = false := by rw [HPN.out]; simp; omega
                          have hgt : ¬ pn ≤ 4 := hp4
                          have HGN : Hid (false = (G && (x.methods.take (k + 1)).all methodB)) := by
                            show false = _
                            rw [all_take_succ HY.out, ← Bool.and_assoc, ← HGK.out]
                            simp [methodB, *]
                          go_wp2
                          refine ⟨?_, by simp [intOf]; omega⟩
                          first
                            | exact ⟨k + 1, by omega, by go_num, ⟨false, rfl, HGN⟩, HBE⟩
                            | ((repeat apply Exists.intro)
                               refine ⟨⟨k + 1, by omega, ?_, ⟨false, rfl, HGN⟩, HBE⟩, rfl⟩
                               go_num)
                  · obtain rfl : k = n := by omega
                    go_wp2
                    have et := List.take_of_length_le (l := x.methods) (i := k) (by rw [HN2.out]; exact Nat.le_refl _)
                    have HGN : Hid (gk = (p.main.all stmtB && (p.classes.take (j + 1)).all classB)) := by
                      show gk = _
                      rw [all_take_succ HX.out, HGK.out, et, HGD.out]
                      simp [classB, Bool.and_assoc]
                    refine ⟨?_, by simp [intOf]; omega⟩
                    first
                      | exact ⟨j + 1, by omega, by go_num, ⟨gk, rfl, HGN⟩, HBR⟩
                      | ((repeat apply Exists.intro)
                         refine ⟨⟨j + 1, by omega, ?_, ⟨gk, rfl, HGN⟩, HBR⟩, rfl⟩
                         go_num)
    · obtain rfl : j = cn := by omega
      have et := List.take_of_length_le (l := p.classes) (i := j) (by rw [HN.out]; exact Nat.le_refl _)
      have HE : Hid (g = checkB p) := by have := HGJ.out; rw [et] at this; exact this
      clear et
      cases g with
      | false =>
        go_wp2
        go_ret
        exact ⟨by rw [← HE.out]; rfl, HB.out⟩
      | true =>
        go_wp2
        go_ret
        exact ⟨by rw [← HE.out]; rfl, HB.out⟩
end Go.Proofs.Ytjciafpihdbedaa
end
section
namespace Go.Proofs.Ytjciafpihdbedaa
open Go.RowKit
theorem cls_named (nm su : ByteArray) (fv mv : Value) (nb : Nat) (name : ByteArray) (w : World) (hn : w.cell? ⟨nb, 0, none⟩ = some (.string name)) :
    Calls Try.prog 58 #[.agg #[.string nm, .string su, fv, mv], .pointer (some ⟨nb, 0, none⟩)] w fun e w' => e = .returned (.bool (nm.toList == name.toList)) ∧ Below w.heap.size w w' := by
  have hlt := cell_lt hn
  have hlt : nb < w.heap.size := hlt
  have hne : ¬ nb = w.heap.size := by omega
  go_enter Try.func58, Try.ntmps58
  go_wp2
  go_ret
  exact ⟨rfl, by go_grown⟩
theorem indexClass_any {α : Type} (R : List Value → α → Prop) (l : List α) (p : α → Bool) (g : FuncId) (c : Nat) (v : Value) (w : World) (hg : ∀ args W, (callFunc g args).run Try.prog W = .ok (.enter g args) W) (hlen : ∀ cs x, R cs x → cs.length = 4) (hv : RSl 4 R w (· < w.heap.size) v l)
    (HF : Hid (∀ (W : World) cs x, Below w.heap.size w W → x ∈ l → R cs x → Calls Try.prog g #[.agg cs.toArray, .pointer (some ⟨c, 0, none⟩)] W fun e w' => e = .returned (.bool (p x)) ∧ Below W.heap.size W w')) :
    Calls Try.prog 45 #[v, .func (.func g) #[] #[.pointer (some ⟨c, 0, none⟩)]] w fun e w' => e = .returned (.int .i64 (idxB p l)) ∧ Below w.heap.size w w' := by
  obtain ⟨a, n, cap, rfl, hn, hcap, hmax, hel⟩ := hv
  have H := Lib.hid hel
  have HN := Lib.hid hn
  have HL := Lib.hid hlen
  unfold maxC at hmax
  clear hel hn hlen
  go_enter Try.func45, Try.ntmps45
  go_wp2
  go_loopw [8] (fun v8 w' => ∃ j : Nat, j ≤ n ∧ v8 = .int .i64 j ∧ Hid (∀ y ∈ l.take j, p y = false) ∧ Hid (Below w.heap.size w w')) (fun v8 _ => n - (intOf v8).toNat)
  case atStart => exact ⟨0, by omega, rfl, (by show ∀ y ∈ l.take 0, p y = false; simp), Below.refl _ _⟩
  case round =>
    obtain ⟨j, hj, rfl, HP, HB⟩ := hrel
    by_cases hlt : j < n
    · obtain ⟨x, hx⟩ : ∃ x, l[j]? = some x := ⟨_, List.getElem?_eq_getElem (by rw [HN.out]; exact hlt)⟩
      have HX := Lib.hid hx
      clear hx
      obtain ⟨b, off, cs, rfl, hbl, hc, hr⟩ := H.out j _ HX.out
      obtain ⟨u0, u1, u2, u3, rfl⟩ := len4 (HL.out _ _ hr)
      have HR := Lib.hid hr
      have HC := cellsAt_of_block (HB.out.block b hbl) hc
      simp only [cellsAt, and_true] at HC
      obtain ⟨c0, c1, c2, c3⟩ := HC
      clear hc hr
      go_wp2_with fail
      refine (HF.out _ _ _ HB.out (List.mem_of_getElem? HX.out) HR.out).mono ?_
      rintro e w1 ⟨rfl, hb1⟩
      have HB1 : Hid (Below w.heap.size w w1) := HB.out.trans (hb1.mono HB.out.size)
      clear hb1
      cases hp : p x with
      | true =>
        go_wp2
        go_ret
        exact ⟨by rw [idxB_hit p l j x HX.out hp HP.out]; rfl, HB1.out⟩
      | false =>
        go_wp2
        refine ⟨⟨j + 1, by omega, by go_num, ?_, HB1⟩, by simp [intOf]; omega⟩
        show ∀ y ∈ l.take (j + 1), p y = false
        rw [List.take_add_one, HX.out]
        intro y hy
        simp only [Option.toList_some, List.mem_append, List.mem_singleton] at hy
        rcases hy with hy | rfl
        · exact HP.out y hy
        · exact hp
    · obtain rfl : j = n := by omega
      have et := List.take_of_length_le (l := l) (i := j) (by rw [HN.out]; exact Nat.le_refl _)
      have HE : Hid (idxB p l = -1) := idxB_none p l (by have := HP.out; rw [et] at this; exact this)
      clear et
      go_wp2
      go_ret
      exact ⟨by rw [HE.out]; rfl, HB.out⟩
def namedB (name : ByteArray) (c : Class) : Bool := c.name.toList == name.toList
theorem indexNamed (d : Nat) (cv : Value) (l : List Class) (name : ByteArray) (nb : Nat) (w : World) (hv : RClasses d w (· < w.heap.size) cv l) (hn : w.cell? ⟨nb, 0, none⟩ = some (.string name)) :
    Calls Try.prog 45 #[cv, .func (.func 58) #[] #[.pointer (some ⟨nb, 0, none⟩)]] w fun e w' => e = .returned (.int .i64 (idxB (namedB name) l)) ∧ Below w.heap.size w w' := by
  refine indexClass_any (RClass d w (· < w.heap.size)) l (namedB name) _ nb cv w (fun _ _ => by kernel_rfl) (fun cs x h => by obtain ⟨fv, mv, rfl, -⟩ := h; rfl) hv (fun W cs x hb _ hr => ?_)
  obtain ⟨fv, mv, rfl, -⟩ := hr
  exact cls_named _ _ _ _ _ _ _ (next hb hn)
end Go.Proofs.Ytjciafpihdbedaa
end
section
namespace Go.Proofs.Ytjciafpihdbedaa
open Go.RowKit
structure Own (w0 wr : World) (e : TypeId) (sz : Nat) (v : Value) (n : Nat) (cells : List Value) : Prop where
  below : Below w0.heap.size w0 wr
  own : wr.ownsRow w0.heap.size e sz v n cells
theorem Own.start (w0 : World) (e : TypeId) (sz : Nat) : Own w0 w0 e sz (.slice none 0 0) 0 [] := ⟨Below.refl _ _, World.ownsRow_nil _ _ _ _⟩
section
variable {w0 wr w1 : World} {e : TypeId} {sz n : Nat} {v : Value} {cells : List Value}
theorem Own.more (h : Own w0 wr e sz v n cells) (hb : Below wr.heap.size wr w1) : Own w0 w1 e sz v n cells :=
  ⟨h.below.trans (hb.mono h.below.size), h.own.kept (row := none) ⟨hb.os, hb.tape, hb.output, hb.size, fun k hk _ => hb.block k hk⟩ (by
    cases hq : v.ownBlock with
    | none => exact .inl rfl
    | some b => exact .inr (by simp))⟩
theorem Own.alloc (h : Own w0 wr e sz v n cells) (o : Obj) : Own w0 (wr.alloc o) e sz v n cells := h.more ((Below.refl _ _).alloc (Nat.le_refl _) _)
theorem Own.push {v' : Value} {n' : Nat} {cells' : List Value} (h : Own w0 wr e sz v n cells) (hg : wr.grownBy w1 v.ownBlock) (hown : w1.ownsRow w0.heap.size e sz v' n' cells') : Own w0 w1 e sz v' n' cells' :=
  ⟨h.below.grown hg h.below.size (fun q hq => (h.own.lt q hq).1), hown⟩
theorem Own.shape (h : Own w0 wr e sz v n cells) : ∃ a cap, v = .slice a n cap := by
  rcases h.own.2 with ⟨h1, h2⟩ | ⟨g, cap, cur, h1, -⟩
  · exact ⟨none, 0, by rw [h1, h2]⟩
  · exact ⟨_, cap, h1⟩
theorem Own.len (h : Own w0 wr e sz v n cells) : cells.length = n * sz := h.own.1
end
end Go.Proofs.Ytjciafpihdbedaa
end
section
namespace Go.Proofs.Ytjciafpihdbedaa
open Go.RowKit
def RStrs (w : World) (v : Value) (l : List ByteArray) : Prop :=
  ∃ a n cap, v = .slice a n cap ∧ l.length = n ∧ n ≤ 9223372036854775807 ∧ ∀ i x, l[i]? = some x → ∃ b off, a = some ⟨b, off, none⟩ ∧ b < w.heap.size ∧ w.cell? ⟨b, off + i, none⟩ = some (.string x)
theorem RStrs.below {w w' : World} {v : Value} {l : List ByteArray} (h : RStrs w v l) (hb : Below w.heap.size w w') : RStrs w' v l := by
  obtain ⟨a, n, cap, h1, h2, h3, h4⟩ := h
  refine ⟨a, n, cap, h1, h2, h3, fun i x hx => ?_⟩
  obtain ⟨b, off, ha, hlt, hc⟩ := h4 i x hx
  exact ⟨b, off, ha, Nat.lt_of_lt_of_le hlt hb.size, (hb.cell (p := ⟨b, off + i, none⟩) hlt).trans hc⟩
def namesL (l : List Slot) : List ByteArray := l.map (·.name)
theorem namesL_take {l : List Slot} {j : Nat} {x : Slot} (hx : l[j]? = some x) : namesL (l.take (j + 1)) = namesL (l.take j) ++ [x.name] := by
  unfold namesL; rw [List.take_add_one, hx]; simp
end Go.Proofs.Ytjciafpihdbedaa
end
section
namespace Go.Proofs.Ytjciafpihdbedaa
open Go.RowKit
abbrev Bytes := List UInt8
theorem keyedStr : Maps.Keyed Try.prog 9 := Maps.string_keyed Try.underlying9
theorem zeroInt (w : World) : (zeroValue 3).run Try.prog w = .ok (.int .i64 0) w := by kernel_rfl
theorem isKey_str (s : Bytes) : WideAt.IsKeyLit (.string s) := by simp [WideAt.IsKeyLit]
theorem key_str {s : ByteArray} (h : s.size ≤ maxLen) : keyOf Try.prog 9 (.string s) = some (.string s.data.toList) := WideMaps.keyOf_string_mk Try.underlying9 h
def firsts (l : List Bytes) : List Bytes := l.foldl (fun a x => if x ∈ a then a else a ++ [x]) []
theorem firsts_snoc (l : List Bytes) (x : Bytes) : firsts (l ++ [x]) = if x ∈ firsts l then firsts l else firsts l ++ [x] := by
  unfold firsts
  rw [List.foldl_append]
  rfl
theorem firsts_facts : ∀ l : List Bytes, (firsts l.reverse).Nodup ∧ (∀ x, x ∈ firsts l.reverse ↔ x ∈ l.reverse) ∧ (firsts l.reverse).length ≤ l.reverse.length ∧ ((firsts l.reverse).length = l.reverse.length ↔ l.reverse.Nodup)
  | [] => by simp [firsts]
  | x :: l => by
    obtain ⟨h1, h2, h3, h4⟩ := firsts_facts l
    rw [List.reverse_cons, firsts_snoc]
    by_cases hx : x ∈ firsts l.reverse
    · rw [if_pos hx]
      refine ⟨h1, fun y => ?_, by rw [List.length_append]; omega, ?_⟩
      · rw [h2, List.mem_append]
        constructor
        · exact .inl
        · rintro (h | h)
          · exact h
          · rw [List.mem_singleton.1 h]; exact (h2 x).1 hx
      · rw [List.length_append, List.nodup_append]
        constructor
        · intro h; simp at h; simp at h3; omega
        · rintro ⟨-, -, h⟩
          exact absurd rfl (h x ((h2 x).1 hx) x (by simp))
    · rw [if_neg hx]
      have hx2 : x ∉ l.reverse := fun h => hx ((h2 x).2 h)
      refine ⟨?_, fun y => by rw [List.mem_append, List.mem_append, h2], by rw [List.length_append, List.length_append]; omega, ?_⟩
      · rw [List.nodup_append]
        exact ⟨h1, by simp, fun a ha b hb => by rw [List.mem_singleton.1 hb]; rintro rfl; exact hx ha⟩
      · rw [List.length_append, List.length_append, List.nodup_append]
        constructor
        · intro h
          refine ⟨h4.1 (by simpa using h), by simp, fun a ha b hb => by rw [List.mem_singleton.1 hb]; rintro rfl; exact hx2 ha⟩
        · rintro ⟨h, -, -⟩
          have := h4.2 h
          omega
theorem firsts_all (l : List Bytes) : (firsts l).Nodup ∧ (∀ x, x ∈ firsts l ↔ x ∈ l) ∧ (firsts l).length ≤ l.length ∧ ((firsts l).length = l.length ↔ l.Nodup) := by
  have h := firsts_facts l.reverse
  rwa [List.reverse_reverse] at h
structure MK (w : World) (b n : Nat) (l : List Bytes) : Prop where
  own : ∃ D : DataW Unit, w.ownsMap Try.prog 9 (plainElem Try.prog 3) b n D ∧ (∀ s, Maps.has D (.string s) = decide (s ∈ l)) ∧ Maps.size D = (firsts l).length
theorem MK.made (w : World) : MK (w.alloc (.map #[] 0)) w.heap.size 0 [] :=
  ⟨.map [], World.ownsMap_made _ _ _ _, fun _ => rfl, rfl⟩
theorem MK.look {w : World} {b n : Nat} {l : List Bytes} (h : MK w b n l) {s : ByteArray} (hs : s.size ≤ maxLen) : ∃ c, (Instr.lookup 77 (.map (some b)) (.string s) false).run Try.prog w = .ok (.int .i64 c) w := by
  obtain ⟨D, h, -⟩ := h.own
  obtain ⟨c, hrun, -, -⟩ := h.lookup_int keyedStr Try.underlying77 Try.underlying3 (zeroInt w) (key_str hs)
  exact ⟨c, hrun⟩
theorem MK.put {w : World} {b n : Nat} {l : List Bytes} (h : MK w b n l) (hn : n < maxLen) {s : ByteArray} (hs : s.size ≤ maxLen) {c : Int} (hc : (Lit.int .i64 c).wf = true) :
    ∃ w', (Instr.mapUpdate 77 (.map (some b)) (.string s) (.int .i64 c)).run Try.prog w = .ok () w' ∧ MK w' b (n + 1) (l ++ [s.data.toList]) ∧ w.grownBy w' (some b) := by
  obtain ⟨D, h, hh, hsz⟩ := h.own
  have ht := h.tidy keyedStr
  obtain ⟨w', hrun, h1, h2⟩ := h.update keyedStr Try.underlying77 hn (key_str hs) (plainElem_int Try.underlying3 hc)
  refine ⟨w', hrun, ⟨_, h1, fun q => ?_, ?_⟩, h2⟩
  · by_cases e : q = s.data.toList
    · subst e; rw [Maps.has_put_same h.isMap (isKey_str _)]; simp
    · have hne : Lit.string q ≠ Lit.string s.data.toList := fun hq => e (by injection hq)
      rw [Maps.has_put_other hne, hh q]
      simp [e]
  · rw [Maps.size_put ht, hh, hsz, firsts_snoc]
    have hm := (firsts_all l).2.1 s.data.toList
    by_cases hx : s.data.toList ∈ l
    · rw [if_pos (hm.2 hx)]; simp [hx]
    · rw [if_neg (fun k => hx (hm.1 k))]; simp [hx]
theorem MK.len {w : World} {b n : Nat} {l : List Bytes} (h : MK w b n l) (ty : TypeId) : (Builtin.len_ #[77] ty #[.map (some b)]).run Try.prog w = .ok (.int .i64 ((firsts l).length : Nat)) w := by
  obtain ⟨D, h, -, hsz⟩ := h.own
  rw [h.len Try.underlying77 ty, hsz]
def onceB (l : List ByteArray) : Bool := decide ((l.map fun s => s.data.toList).Nodup)
set_option maxHeartbeats 1000000 in
theorem once_any (v : Value) (l : List ByteArray) (w : World) (hv : RStrs w v l) (hl : l.length ≤ 1000000000000) (hsz : ∀ s ∈ l, s.size ≤ maxLen) :
    Calls Try.prog 23 #[v] w fun e w' => e = .returned (.bool (onceB l)) ∧ Below w.heap.size w w' := by
  obtain ⟨a, m, cap, rfl, hm, hmax, hel⟩ := hv
  have H := Lib.hid hel
  have HN := Lib.hid hm
  have HS := Lib.hid hsz
  rw [hm] at hl
  clear hel hm hsz
  have hmm := @run_makeMap Try.prog
  have M0 : Hid (MK (w.alloc (.map #[] 0)) w.heap.size 0 ((l.take 0).map fun s => s.data.toList)) := MK.made w
  go_enter Try.func23, Try.ntmps23
  go_wp2
  clear hmm
  go_loopw [9] (fun v9 wr => ∃ j : Nat, j ≤ m ∧ v9 = .int .i64 j ∧ Hid (MK wr w.heap.size j ((l.take j).map fun s => s.data.toList)) ∧ Hid (Below w.heap.size w wr)) (fun v9 _ => m - (intOf v9).toNat)
  case atStart => exact ⟨0, by omega, rfl, M0, (Below.refl _ _).alloc (Nat.le_refl _) _⟩
  case round =>
    clear M0
    obtain ⟨j, hj, rfl, HM, HB⟩ := hrel
    by_cases hlt : j < m
    · obtain ⟨x, hx⟩ : ∃ x, l[j]? = some x := ⟨_, List.getElem?_eq_getElem (by rw [HN.out]; exact hlt)⟩
      obtain ⟨b, off, rfl, hbl, hc⟩ := H.out j _ hx
      have d0 := (HB.out.cell (p := ⟨b, off + j, none⟩) hbl).trans hc
      have hxs := HS.out x (List.mem_of_getElem? hx)
      obtain ⟨c, hlook⟩ := HM.out.look hxs
      obtain ⟨w3, hput, hm3, hg3⟩ := HM.out.put (by unfold maxLen; omega) hxs (c := wrap64 (c + 1)) (RowKit.wrap64_wf _)
      have HM3 : Hid (MK w3 w.heap.size (j + 1) ((l.take (j + 1)).map fun s => s.data.toList)) := by
        show MK w3 w.heap.size (j + 1) ((l.take (j + 1)).map fun s => s.data.toList)
        rw [List.take_add_one, hx]
        simpa using hm3
      have HB3 : Hid (Below w.heap.size w w3) := HB.out.grown hg3 HB.out.size (fun q hq => by cases hq; exact Nat.le_refl _)
      clear hx hc hbl hm3 hg3 hxs
      go_wp2
      exact ⟨⟨j + 1, by omega, by go_num, HM3, HB3⟩, by simp [intOf]; omega⟩
    · obtain rfl : m = j := by omega
      have hlen := HM.out.len 3
      rw [List.take_of_length_le (by rw [HN.out]; exact Nat.le_refl _)] at hlen
      have hf := firsts_all (l.map fun s => s.data.toList)
      rw [List.length_map, HN.out] at hf
      have HF : Hid (onceB l = decide ((firsts (l.map fun s => s.data.toList)).length = m)) := by
        show onceB l = _
        unfold onceB
        exact decide_eq_decide.2 hf.2.2.2.symm
      generalize hq : (firsts (l.map fun s => s.data.toList)).length = q at *
      clear hf hq
      go_wp2
      go_ret
      refine ⟨?_, HB.out⟩
      rw [HF.out]
      exact ret_bool (by rw [Bool.eq_iff_iff]; simp; omega)
end Go.Proofs.Ytjciafpihdbedaa
end
section
namespace Go.Proofs.Ytjciafpihdbedaa
open Go.RowKit
def typesOf (l : List Slot) : List Bytes := l.map fun s => s.type.toList
theorem typesOf_at {l : List Slot} {k : Nat} {x : Slot} (h : l[k]? = some x) : (typesOf l)[k]? = some x.type.toList := by simp [typesOf, h]
theorem typesOf_len (l : List Slot) : (typesOf l).length = l.length := by simp [typesOf]
theorem sameType (x y : Slot) (w : World) : Calls Try.prog 75 #[.agg #[.string x.type, .string x.name], .agg #[.string y.type, .string y.name]] w fun e w' => e = .returned (.bool (x.type.toList == y.type.toList)) ∧ Below w.heap.size w w' := by
  go_enter Try.func75, Try.ntmps75
  go_wp2
  go_ret
  exact ⟨rfl, by go_grown⟩
set_option maxHeartbeats 1000000 in
theorem equalTypes (u v : Value) (l m : List Slot) (w : World) (hu : RSlots w (· < w.heap.size) u l) (hv : RSlots w (· < w.heap.size) v m) :
    Calls Try.prog 74 #[u, v, .func (.func 75) #[] #[]] w fun e w' => e = .returned (.bool (decide (typesOf l = typesOf m))) ∧ Below w.heap.size w w' := by
  obtain ⟨a, n, cap, rfl, hn, hcap, hmax, hel⟩ := hu
  obtain ⟨a', n', cap', rfl, hn', hcap', hmax', hel'⟩ := hv
  unfold maxC at hmax hmax'
  have H := Lib.hid hel
  have H' := Lib.hid hel'
  have HN := Lib.hid hn
  have HN' := Lib.hid hn'
  clear hel hel' hn hn'
  by_cases hnn : n = n'
  · subst hnn
    go_enter Try.func74, Try.ntmps74
    go_wp2
    go_loopw [17] (fun v17 wr => ∃ k : Nat, k ≤ n ∧ v17 = .int .i64 k ∧ Hid ((typesOf l).take k = (typesOf m).take k) ∧ Hid (Below w.heap.size w wr)) (fun v17 _ => n - (intOf v17).toNat)
    case atStart => exact ⟨0, by omega, rfl, rfl, Below.refl _ _⟩
    case round =>
      obtain ⟨k, hk, rfl, HQ, HB⟩ := hrel
      by_cases hlt : k < n
      · obtain ⟨x, hx⟩ : ∃ x, l[k]? = some x := ⟨_, List.getElem?_eq_getElem (by rw [HN.out]; exact hlt)⟩
        obtain ⟨y, hy⟩ : ∃ y, m[k]? = some y := ⟨_, List.getElem?_eq_getElem (by rw [HN'.out]; exact hlt)⟩
        have HX := Lib.hid (typesOf_at hx)
        have HY := Lib.hid (typesOf_at hy)
        obtain ⟨b, off, cs, rfl, hb, hc, hr⟩ := H.out k _ hx
        obtain ⟨b', off', cs', rfl, hb', hc', hr'⟩ := H'.out k _ hy
        obtain ⟨rfl, -, -⟩ := hr
        obtain ⟨rfl, -, -⟩ := hr'
        have hc := cellsAt_of_block (HB.out.block b hb) hc
        have hc' := cellsAt_of_block (HB.out.block b' hb') hc'
        obtain ⟨c0, c1, -⟩ := hc
        obtain ⟨c2, c3, -⟩ := hc'
        have hbl : b < wr.heap.size := Nat.lt_of_lt_of_le hb HB.out.size
        have hbl' : b' < wr.heap.size := Nat.lt_of_lt_of_le hb' HB.out.size
        have hkn : (k : Int) < (n : Int) := by omega
        have HBA : Hid (∀ o1 o2, Below w.heap.size w ((wr.alloc o1).alloc o2)) := fun o1 o2 => by
          have b1 := HB.out.alloc HB.out.size o1
          exact b1.alloc b1.size o2
        clear hx hy hb hb'
        go_wp2_with fail
        refine (sameType x y _).mono ?_
        rintro e w2 ⟨rfl, hb2⟩
        have HB2 : Hid (Below w.heap.size w w2) := afterCall (HBA.out _ _) hb2
        clear hb2
        by_cases hxy : x.type.toList = y.type.toList
        · have hq : (x.type.toList == y.type.toList) = true := by simpa using hxy
          have HQ2 : Hid ((typesOf l).take (k + 1) = (typesOf m).take (k + 1)) := by
            show _ = _
            rw [List.take_add_one, List.take_add_one, HX.out, HY.out, HQ.out, hxy]
          rw [hq]
          clear hq hxy
          go_wp2
          exact ⟨⟨k + 1, by omega, by go_num, HQ2, HB2⟩, by simp [intOf]; omega⟩
        · have hq : (x.type.toList == y.type.toList) = false := by simpa using hxy
          have HD : Hid (decide (typesOf l = typesOf m) = false) := by
            show decide (typesOf l = typesOf m) = false
            rw [decide_eq_false_iff_not]
            intro e
            have := HX.out
            rw [e, HY.out] at this
            exact hxy (Option.some.inj this).symm
          rw [hq]
          clear hq hxy
          go_wp2
          go_ret
          exact ⟨by rw [HD.out]; rfl, HB2.out⟩
      · obtain rfl : k = n := by omega
        have HD : Hid (decide (typesOf l = typesOf m) = true) := by
          show decide (typesOf l = typesOf m) = true
          rw [decide_eq_true_iff]
          have h := HQ.out
          rw [List.take_of_length_le (by rw [typesOf_len, HN.out]; exact Nat.le_refl _), List.take_of_length_le (by rw [typesOf_len, HN'.out]; exact Nat.le_refl _)] at h
          exact h
        go_wp2
        go_ret
        exact ⟨by rw [HD.out]; rfl, HB.out⟩
  · have HD : Hid (decide (typesOf l = typesOf m) = false) := by
      show decide (typesOf l = typesOf m) = false
      rw [decide_eq_false_iff_not]
      intro e
      have := congrArg List.length e
      rw [typesOf_len, typesOf_len] at this
      exact hnn (HN.out.symm.trans (this.trans HN'.out))
    go_enter Try.func74, Try.ntmps74
    go_wp2
    all_goals go_ret
    all_goals exact ⟨by rw [HD.out]; rfl, Below.refl _ _⟩
def alikeB (x y : Method) : Bool := (x.type.toList == y.type.toList) && decide (typesOf x.params = typesOf y.params)
theorem alike_any (x y : Method) (cx cy : List Value) (d : Nat) (w : World) (hx : RMethod d w (· < w.heap.size) cx x) (hy : RMethod d w (· < w.heap.size) cy y) :
    Calls Try.prog 50 #[.agg cx.toArray, .agg cy.toArray] w fun e w' => e = .returned (.bool (alikeB x y)) ∧ Below w.heap.size w w' := by
  obtain ⟨pv, bv, rfl, -, -, hp, -⟩ := hx
  obtain ⟨pv', bv', rfl, -, -, hp', -⟩ := hy
  have HP := Lib.hid hp
  have HP' := Lib.hid hp'
  obtain ⟨a, n, c, rfl⟩ := RSl.shape hp
  obtain ⟨a', n', c', rfl⟩ := RSl.shape hp'
  clear hp hp'
  by_cases ht : x.type.toList = y.type.toList
  · have h1 : (x.type.toList == y.type.toList) = true := by simpa using ht
    have HA : Hid (alikeB x y = decide (typesOf x.params = typesOf y.params)) := by show alikeB x y = _; unfold alikeB; rw [h1, Bool.true_and]
    clear ht
    go_enter Try.func50, Try.ntmps50
    go_wp2_with fail
    refine (equalTypes _ _ x.params y.params _ (HP.out.mono (fun b hb => by simp; omega) (fun b hb => ?_)) (HP'.out.mono (fun b hb => by simp; omega) (fun b hb => ?_))).mono ?_
    · exact (((Below.refl w.heap.size w).alloc (Nat.le_refl _) _).alloc (by simp) _).block b hb
    · exact (((Below.refl w.heap.size w).alloc (Nat.le_refl _) _).alloc (by simp) _).block b hb
    rintro e w2 ⟨rfl, hb⟩
    have HB : Hid (Below w.heap.size w w2) := afterCall (by go_grown) hb
    clear hb
    go_wp2
    go_ret
    exact ⟨by rw [HA.out]; rfl, HB.out⟩
  · have h1 : (x.type.toList == y.type.toList) = false := by simpa using ht
    have HA : Hid (alikeB x y = false) := by show alikeB x y = _; unfold alikeB; rw [h1, Bool.false_and]
    clear ht
    go_enter Try.func50, Try.ntmps50
    go_wp2
    go_ret
    exact ⟨by rw [HA.out]; rfl, by go_grown⟩
end Go.Proofs.Ytjciafpihdbedaa
end
