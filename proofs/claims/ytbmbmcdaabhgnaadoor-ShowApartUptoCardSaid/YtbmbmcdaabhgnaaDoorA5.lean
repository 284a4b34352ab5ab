/- Joined by my own program, in build order: Names. -/
import Derived.Test.YtbmbmcdaabhgnaaDoorA1
import Derived.Test.YtbmbmcdaabhgnaaDoorT4
import Derived.WalkSpells
import Derived.Handy
import Derived.Lib.IndexAny
set_option linter.unusedVariables false
set_option linter.unusedSimpArgs false
section
namespace Go.Proofs.YtbmbmcdaabhgnaaDoor
open Go.RowKit
def letterB (c : UInt8) : Bool := (97 ≤ c && c ≤ 122) || (65 ≤ c && c ≤ 90)
def digitB (c : UInt8) : Bool := 48 ≤ c && c ≤ 57
def withinB (c : UInt8) : Bool := letterB c || digitB c || c == 95
theorem letterB_iff (c : UInt8) : letterB c = decide ((97 ≤ (c.toNat : Int) ∧ (c.toNat : Int) ≤ 122) ∨ (65 ≤ (c.toNat : Int) ∧ (c.toNat : Int) ≤ 90)) := by
  rw [Bool.eq_iff_iff]; simp [letterB, UInt8.le_iff_toNat_le]; omega
theorem digitB_iff (c : UInt8) : digitB c = decide (48 ≤ (c.toNat : Int) ∧ (c.toNat : Int) ≤ 57) := by
  rw [Bool.eq_iff_iff]; simp [digitB, UInt8.le_iff_toNat_le]; omega
theorem all_bytes {p : UInt8 → Prop} [DecidablePred p] (h : ∀ n : Fin 256, p (UInt8.ofNat n.val)) (c : UInt8) : p c := by
  have := h ⟨c.toNat, c.toNat_lt⟩
  simpa using this
theorem begins_eq (c : UInt8) : (decide (97 ≤ bits BinOp.or IntKind.u8 (c.toNat : Int) 32) && decide (bits BinOp.or IntKind.u8 (c.toNat : Int) 32 ≤ 122)) = letterB c :=
  all_bytes (p := fun c => (decide (97 ≤ bits BinOp.or IntKind.u8 (c.toNat : Int) 32) && decide (bits BinOp.or IntKind.u8 (c.toNat : Int) 32 ≤ 122)) = letterB c) (by decide +kernel) c
theorem ret_bool {a b : Bool} (h : a = b) : Ending.returned (.bool a) = .returned (.bool b) := by rw [h]
theorem begins_any (c : UInt8) (w : World) : Calls Tryd.prog 59 #[.int .u8 c.toNat] w fun e w' => e = .returned (.bool (letterB c)) ∧ w = w' := by
  have hq := Lib.hid (begins_eq c)
  go_enter Tryd.func59, Tryd.ntmps59
  go_wp2
  all_goals go_ret
  all_goals refine ⟨ret_bool ?_, rfl⟩
  all_goals rw [← hq.out]; simp [*]
  all_goals omega
theorem figure_any (c : UInt8) (w : World) : Calls Tryd.prog 84 #[.int .u8 c.toNat] w fun e w' => e = .returned (.bool (digitB c)) ∧ w = w' := by
  go_enter Tryd.func84, Tryd.ntmps84
  go_wp2
  all_goals go_ret
  all_goals refine ⟨ret_bool ?_, rfl⟩
  all_goals rw [digitB_iff, Bool.eq_iff_iff]; simp; omega
theorem goes_any (c : UInt8) (w : World) : Calls Tryd.prog 61 #[.int .u8 c.toNat] w fun e w' => e = .returned (.bool (withinB c)) ∧ w = w' := by
  go_enter Tryd.func61, Tryd.ntmps61
  go_wp2_with (first
    | (go_at_call 59; refine (begins_any _ _).mono ?_; rintro e w' ⟨rfl, rfl⟩)
    | (go_at_call 84; refine (figure_any _ _).mono ?_; rintro e w' ⟨rfl, rfl⟩))
  all_goals go_ret
  all_goals refine ⟨ret_bool ?_, rfl⟩
  all_goals simp_all [withinB]
  all_goals (rw [Bool.eq_iff_iff]; simp [← UInt8.toNat_inj]; omega)
theorem run_any (s : ByteArray) (hs : s.size ≤ maxS) (w : World) : Calls Tryd.prog 60 #[.string s, .func (.func 61) #[] #[]] w fun e w' => e = .returned (.int .i64 (s.data.toList.takeWhile withinB).length) ∧ w = w' := by
  unfold maxS at hs
  go_enter Tryd.func60, Tryd.ntmps60
  go_wp2
  go_loop [5] (fun v5 => ∃ k : Nat, k ≤ s.size ∧ v5 = .int .i64 k ∧ (s.data.toList.takeWhile withinB).length = k + ((s.data.toList.drop k).takeWhile withinB).length) (fun v5 => s.size - (intOf v5).toNat)
  case atStart => exact ⟨0, by omega, rfl, by simp⟩
  case round =>
    obtain ⟨k, hk, rfl, hq⟩ := hrel
    have HQ := Lib.hid hq
    clear hq
    by_cases hlt : k < s.size
    · have hd : s.data.toList.drop k = s[k] :: s.data.toList.drop (k + 1) := by
        rw [List.drop_eq_getElem_cons (by simpa using hlt)]; rfl
      have HD := Lib.hid hd
      clear hd
      go_wp2_with (go_at_call 61; refine (goes_any _ _).mono ?_; rintro e w' ⟨rfl, rfl⟩)
      · have hw : withinB s[k] = true := by assumption
        go_round
        case rel => exact ⟨k + 1, by omega, by go_num, by rw [HQ.out, HD.out, List.takeWhile_cons_of_pos hw]; simp; omega⟩
        case measure => simp [intOf]; omega
      · have hw : withinB s[k] = false := by assumption
        go_ret
        refine ⟨?_, rfl⟩
        rw [HQ.out, HD.out, List.takeWhile_cons_of_neg (by simp [hw])]; rfl
    · have hd : s.data.toList.drop k = [] := List.drop_of_length_le (by simpa using hlt)
      have HD := Lib.hid hd
      clear hd
      go_wp2
      go_ret
      refine ⟨?_, rfl⟩
      rw [HQ.out, HD.out]; rfl
def words : List (List UInt8) := [[99, 108, 97, 115, 115], [101, 120, 116, 101, 110, 100, 115], [105, 110, 116], [109, 97, 105, 110], [105, 102], [101, 108, 115, 101], [119, 104, 105, 108, 101], [112, 114, 105, 110, 116], [114, 101, 116, 117, 114, 110], [110, 117, 108, 108], [116, 104, 105, 115], [110, 101, 119], [114, 101, 97, 100], [100, 101, 99, 108, 97, 115, 115, 105, 102, 121], [108, 101, 110, 103, 116, 104]]
def isWordB (l : List UInt8) : Bool := words.contains l
def wordsText : List UInt8 := [32, 99, 108, 97, 115, 115, 32, 101, 120, 116, 101, 110, 100, 115, 32, 105, 110, 116, 32, 109, 97, 105, 110, 32, 105, 102, 32, 101, 108, 115, 101, 32, 119, 104, 105, 108, 101, 32, 112, 114, 105, 110, 116, 32, 114, 101, 116, 117, 114, 110, 32, 110, 117, 108, 108, 32, 116, 104, 105, 115, 32, 110, 101, 119, 32, 114, 101, 97, 100, 32, 100, 101, 99, 108, 97, 115, 115, 105, 102, 121, 32, 108, 101, 110, 103, 116, 104, 32]
theorem prefix_seg (l r : List UInt8) (hsp : 32 ∉ l) (h : (32 :: (l ++ [32])).isPrefixOf r = true) : r[0]? = some 32 ∧ l = (r.drop 1).takeWhile (· != 32) := by
  obtain ⟨t, rfl⟩ := List.isPrefixOf_iff_prefix.1 h
  refine ⟨rfl, ?_⟩
  simp only [List.cons_append, List.drop_succ_cons, List.drop_zero, List.append_assoc]
  rw [List.takeWhile_append_of_pos (by intro a ha; simp; rintro rfl; exact hsp ha)]
  simp
theorem segs_words : ∀ i, i < 89 → wordsText[i]? = some 32 → (wordsText.drop (i + 1)).takeWhile (· != 32) = [] ∨ (wordsText.drop (i + 1)).takeWhile (· != 32) ∈ words := by decide +kernel
theorem words_in : ∀ l ∈ words, Lib.contains wordsText (32 :: (l ++ [32])) = true := by decide +kernel
theorem words_blank : ∀ l ∈ words, 32 ∉ l := by decide +kernel
theorem contains_words (l : List UInt8) (hne : l ≠ []) (hsp : 32 ∉ l) : Lib.contains wordsText (32 :: (l ++ [32])) = isWordB l := by
  rw [Bool.eq_iff_iff]
  constructor
  · intro h
    rcases Lib.index_spec wordsText (32 :: (l ++ [32])) with ⟨h1, _⟩ | ⟨i, _, hi, hocc, _⟩
    · simp [Lib.contains, h1] at h
    · obtain ⟨h0, h1⟩ := prefix_seg l _ hsp hocc
      have hi' : i < 89 := by
        have : i ≤ wordsText.length := hi
        rcases Nat.lt_or_ge i 89 with h | h
        · exact h
        · have hl : wordsText.length = 88 := rfl
          omega
      have h2 : wordsText[i]? = some 32 := by simpa using h0
      rw [List.drop_drop] at h1
      rcases segs_words i hi' h2 with h | h
      · exact absurd (h1.trans h) hne
      · rw [← h1] at h; simpa [isWordB] using h
  · intro h
    exact words_in l (by simpa [isWordB] using h)
theorem indexByte_none (l : List UInt8) (c : UInt8) : (decide (0 ≤ Lib.indexByte l c)) = l.contains c := (Lib.contains_iff_indexByte l c).symm
theorem isWord_any (s : ByteArray) (hs : s.size ≤ 1000) (m : Int) (w : World) (hm : w.cell? ⟨0, 0, none⟩ = some (.int .i64 m)) :
    Calls Tryd.prog 62 #[.string s] w fun e w' => e = .returned (.bool (isWordB s.data.toList)) ∧ w = w' := by
  by_cases hne : s.toList = []
  · go_enter Tryd.func62, Tryd.ntmps62
    go_wp2
    go_ret
    refine ⟨ret_bool ?_, rfl⟩
    rw [← Lib.toList_data, hne]; rfl
  have HN : Hid (s.data.toList ≠ []) := by rw [← Lib.toList_data]; exact hne
  have hb : (!s.toList.isEmpty) = true := by simp [hne]
  by_cases hsp : 32 ∈ s.data.toList
  · have h1 : decide (0 ≤ Lib.indexByte s.data.toList 32) = true := by rw [indexByte_none]; exact List.contains_iff_mem.2 hsp
    have H2 : Hid (false = isWordB s.data.toList) := by
      cases hq : isWordB s.data.toList with
      | false => rfl
      | true => exact absurd hsp (words_blank _ (List.contains_iff_mem.1 hq))
    clear hsp
    go_enter Tryd.func62, Tryd.ntmps62
    go_wp2_with fail
    refine (Tryd.strings_Contains_one _ _ _).mono ?_
    rintro e w' ⟨rfl, rfl⟩
    go_wp2
    go_ret
    exact ⟨ret_bool H2.out, rfl⟩
  · have h1 : decide (0 ≤ Lib.indexByte s.data.toList 32) = false := by rw [indexByte_none, Bool.eq_false_iff]; exact fun h => hsp (List.contains_iff_mem.1 h)
    have H2 : Hid (Lib.contains wordsText (32 :: (s.data.toList ++ [32])) = isWordB s.data.toList) := contains_words _ HN.out hsp
    clear hsp
    go_enter Tryd.func62, Tryd.ntmps62
    go_wp2_with fail
    refine (Tryd.strings_Contains_one _ _ _).mono ?_
    rintro e w' ⟨rfl, rfl⟩
    go_wp2_with fail
    refine (Tryd.strings_Contains _ _ m _ ?_ hm).mono ?_
    · decide
    rintro e w' ⟨rfl, rfl⟩
    generalize hq : Lib.contains _ _ = q
    have H3 : Hid (q = isWordB s.data.toList) := by
      rw [← H2.out, ← hq]; congr 1
    clear hq
    go_wp2
    go_ret
    exact ⟨ret_bool H3.out, rfl⟩
def isNameB (s : ByteArray) : Bool := match s.data.toList with
  | [] => false
  | c :: r => decide ((c :: r).length ≤ 16) && letterB c && (c :: r).all withinB && !isWordB (c :: r)
theorem takeWhile_all {α : Type} (p : α → Bool) (l : List α) : ((l.takeWhile p).length = l.length) = (l.all p = true) := by
  induction l with
  | nil => simp
  | cons a l ih =>
    by_cases h : p a = true
    · simp [List.takeWhile_cons_of_pos h, h]; simpa using ih
    · simp [List.takeWhile_cons_of_neg h, h]
theorem isName_any (s : ByteArray) (hs : s.size ≤ maxS) (m : Int) (w : World) (hm : w.cell? ⟨0, 0, none⟩ = some (.int .i64 m)) :
    Calls Tryd.prog 33 #[.string s] w fun e w' => e = .returned (.bool (isNameB s)) ∧ w = w' := by
  by_cases h0 : s.data.toList = []
  · have h1 : s.toList = [] := by rw [Lib.toList_data]; exact h0
    have H2 : Hid (isNameB s = false) := by unfold isNameB; rw [h0]; rfl
    clear h0
    go_enter Tryd.func33, Tryd.ntmps33
    go_wp2
    go_ret
    exact ⟨ret_bool H2.out.symm, rfl⟩
  have h1 : (!s.toList.isEmpty) = true := by rw [Lib.toList_data]; simpa using h0
  have h1' : ¬ s.toList = [] := by rw [Lib.toList_data]; exact h0
  obtain ⟨c, r, hcr⟩ : ∃ c r, s.data.toList = c :: r := by
    cases h : s.data.toList with
    | nil => exact absurd h h0
    | cons c r => exact ⟨c, r, rfl⟩
  have hsz : s.size = r.length + 1 := by
    have : s.size = s.data.toList.length := by simp
    rw [this, hcr]; rfl
  have hpos : 0 < s.size := by omega
  have H2 : Hid (isNameB s = (decide ((c :: r).length ≤ 16) && letterB c && (c :: r).all withinB && !isWordB (c :: r))) := by unfold isNameB; rw [hcr]; rfl
  have hc0 : s[0] = c := by
    have h2 : s.data[0]? = some s[0] := by rw [Array.getElem?_eq_getElem (by simpa using hpos)]; rfl
    have : s.data.toList[0]? = some s[0] := by rw [Array.getElem?_toList]; exact h2
    rw [hcr] at this; simpa using this.symm
  have h3 : (((s.data.toList.takeWhile withinB).length : Int) == (s.size : Int)) = (c :: r).all withinB := by
    have h2 : s.size = s.data.toList.length := by simp
    have := takeWhile_all withinB s.data.toList
    rw [Bool.eq_iff_iff, ← hcr, ← this, h2]; simp only [beq_iff_eq]; omega
  have HSZ := Lib.hid hsz
  have HCR := Lib.hid hcr
  have HC0 := Lib.hid hc0
  generalize hall : (c :: r).all withinB = ball at *
  have HW : Hid (isWordB (c :: r) = isWordB s.data.toList) := by rw [HCR.out]; rfl
  have HL : Hid ((c :: r).length = s.size) := by rw [HSZ.out]; rfl
  clear h0 hcr hsz hc0 hall
  go_enter Tryd.func33, Tryd.ntmps33
  go_wp2_with (first
    | (go_at_call 59; rw [HC0.out]; refine (begins_any _ _).mono ?_; rintro e w' ⟨rfl, rfl⟩)
    | (go_at_call 60; refine (run_any _ hs _).mono ?_; rintro e w' ⟨rfl, rfl⟩)
    | (go_at_call 62; refine (isWord_any _ ?_ m _ hm).mono ?_; · omega
       rintro e w' ⟨rfl, rfl⟩))
  all_goals go_ret
  all_goals refine ⟨ret_bool ?_, rfl⟩
  all_goals rw [H2.out, HW.out, HL.out]
  all_goals simp_all
  all_goals omega
end Go.Proofs.YtbmbmcdaabhgnaaDoor
end
