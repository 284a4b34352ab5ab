/- Joined by my own program, in build order: Names, Slots, Slots2, Shape, Exprs, Stmts, May, MayS. -/
import Derived.Test.YtjciafpihdbedaaZ1
import Derived.Test.YtjciafpihdbedaaZ3
import Derived.WalkSpells
import Derived.Handy
import Derived.Lib.IndexAny
set_option linter.unusedVariables false
set_option linter.unusedSimpArgs false
section
/- What lex.IsName and the reference's IsName compute. -/
namespace Go.Proofs.Ytjciafpihdbedaa
open Go.RowKit

def letterB (c : UInt8) : Bool := (97 ≤ c && c ≤ 122) || (65 ≤ c && c ≤ 90)
def digitB (c : UInt8) : Bool := 48 ≤ c && c ≤ 57
def withinB (c : UInt8) : Bool := letterB c || digitB c || c == 95

theorem letterB_iff (c : UInt8) : letterB c = decide ((97 ≤ (c.toNat : Int) ∧ (c.toNat : Int) ≤ 122) ∨ (65 ≤ (c.toNat : Int) ∧ (c.toNat : Int) ≤ 90)) := by
  rw [Bool.eq_iff_iff]; simp [letterB, UInt8.le_iff_toNat_le]; omega
theorem digitB_iff (c : UInt8) : digitB c = decide (48 ≤ (c.toNat : Int) ∧ (c.toNat : Int) ≤ 57) := by
  rw [Bool.eq_iff_iff]; simp [digitB, UInt8.le_iff_toNat_le]; omega
theorem all_bytes {p : UInt8 → Prop} [DecidablePred p] (h : ∀ n : Fin 256, p (UInt8.ofNat n.val)) (c : UInt8) : p c := by
  have := h ⟨c.toNat, c.toNat_lt⟩
  simpa using this
theorem begins_eq (c : UInt8) : (decide (97 ≤ bits BinOp.or IntKind.u8 (c.toNat : Int) 32) && decide (bits BinOp.or IntKind.u8 (c.toNat : Int) 32 ≤ 122)) = letterB c :=
  all_bytes (p := fun c => (decide (97 ≤ bits BinOp.or IntKind.u8 (c.toNat : Int) 32) && decide (bits BinOp.or IntKind.u8 (c.toNat : Int) 32 ≤ 122)) = letterB c) (by decide +kernel) c
theorem ret_bool {a b : Bool} (h : a = b) : Ending.returned (.bool a) = .returned (.bool b) := by rw [h]

theorem begins_any (c : UInt8) (w : World) : Calls Try.prog 67 #[.int .u8 c.toNat] w fun e w' => e = .returned (.bool (letterB c)) ∧ w = w' := by
  have hq := Lib.hid (begins_eq c)
  go_enter Try.func67, Try.ntmps67
  go_wp2
  all_goals go_ret
  all_goals refine ⟨ret_bool ?_, rfl⟩
  all_goals rw [← hq.out]; simp [*]
  all_goals omega
theorem letter_any (c : UInt8) (w : World) : Calls Try.prog 76 #[.int .u8 c.toNat] w fun e w' => e = .returned (.bool (letterB c)) ∧ w = w' := by
  go_enter Try.func76, Try.ntmps76
  go_wp2
  all_goals go_ret
  all_goals refine ⟨ret_bool ?_, rfl⟩
  all_goals rw [letterB_iff, Bool.eq_iff_iff]; simp; omega
theorem digit_any (c : UInt8) (w : World) : Calls Try.prog 92 #[.int .u8 c.toNat] w fun e w' => e = .returned (.bool (digitB c)) ∧ w = w' := by
  go_enter Try.func92, Try.ntmps92
  go_wp2
  all_goals go_ret
  all_goals refine ⟨ret_bool ?_, rfl⟩
  all_goals rw [digitB_iff, Bool.eq_iff_iff]; simp; omega
theorem figure_any (c : UInt8) (w : World) : Calls Try.prog 89 #[.int .u8 c.toNat] w fun e w' => e = .returned (.bool (digitB c)) ∧ w = w' := by
  go_enter Try.func89, Try.ntmps89
  go_wp2
  all_goals go_ret
  all_goals refine ⟨ret_bool ?_, rfl⟩
  all_goals rw [digitB_iff, Bool.eq_iff_iff]; simp; omega
theorem goes_any (c : UInt8) (w : World) : Calls Try.prog 69 #[.int .u8 c.toNat] w fun e w' => e = .returned (.bool (withinB c)) ∧ w = w' := by
  go_enter Try.func69, Try.ntmps69
  go_wp2_with (first
    | (go_at_call 67; refine (begins_any _ _).mono ?_; rintro e w' ⟨rfl, rfl⟩)
    | (go_at_call 89; refine (figure_any _ _).mono ?_; rintro e w' ⟨rfl, rfl⟩))
  all_goals go_ret
  all_goals refine ⟨ret_bool ?_, rfl⟩
  all_goals simp_all [withinB]
  all_goals (rw [Bool.eq_iff_iff]; simp [← UInt8.toNat_inj]; omega)
theorem within_any (c : UInt8) (w : World) : Calls Try.prog 78 #[.int .u8 c.toNat] w fun e w' => e = .returned (.bool (withinB c)) ∧ w = w' := by
  go_enter Try.func78, Try.ntmps78
  go_wp2_with (first
    | (go_at_call 76; refine (letter_any _ _).mono ?_; rintro e w' ⟨rfl, rfl⟩)
    | (go_at_call 92; refine (digit_any _ _).mono ?_; rintro e w' ⟨rfl, rfl⟩))
  all_goals go_ret
  all_goals refine ⟨ret_bool ?_, rfl⟩
  all_goals simp_all [withinB]
  all_goals (rw [Bool.eq_iff_iff]; simp [← UInt8.toNat_inj]; omega)

/-- The length of the longest beginning of a text that goes on as a name does. -/
theorem run_any (s : ByteArray) (hs : s.size ≤ maxS) (w : World) : Calls Try.prog 68 #[.string s, .func (.func 69) #[] #[]] w fun e w' => e = .returned (.int .i64 (s.data.toList.takeWhile withinB).length) ∧ w = w' := by
  unfold maxS at hs
  go_enter Try.func68, Try.ntmps68
  go_wp2
  go_loop [5] (fun v5 => ∃ k : Nat, k ≤ s.size ∧ v5 = .int .i64 k ∧ (s.data.toList.takeWhile withinB).length = k + ((s.data.toList.drop k).takeWhile withinB).length) (fun v5 => s.size - (intOf v5).toNat)
  case atStart => exact ⟨0, by omega, rfl, by simp⟩
  case round =>
    obtain ⟨k, hk, rfl, hq⟩ := hrel
    have HQ := Lib.hid hq
    clear hq
    by_cases hlt : k < s.size
    · have hd : s.data.toList.drop k = s[k] :: s.data.toList.drop (k + 1) := by
        rw [List.drop_eq_getElem_cons (by simpa using hlt)]; rfl
      have HD := Lib.hid hd
      clear hd
      go_wp2_with (go_at_call 69; refine (goes_any _ _).mono ?_; rintro e w' ⟨rfl, rfl⟩)
      · have hw : withinB s[k] = true := by assumption
        go_round
        case rel => exact ⟨k + 1, by omega, by go_num, by rw [HQ.out, HD.out, List.takeWhile_cons_of_pos hw]; simp; omega⟩
        case measure => simp [intOf]; omega
      · have hw : withinB s[k] = false := by assumption
        go_ret
        refine ⟨?_, rfl⟩
        rw [HQ.out, HD.out, List.takeWhile_cons_of_neg (by simp [hw])]; rfl
    · have hd : s.data.toList.drop k = [] := List.drop_of_length_le (by simpa using hlt)
      have HD := Lib.hid hd
      clear hd
      go_wp2
      go_ret
      refine ⟨?_, rfl⟩
      rw [HQ.out, HD.out]; rfl
/-- The words of the language. -/
def words : List (List UInt8) := [[99, 108, 97, 115, 115], [101, 120, 116, 101, 110, 100, 115], [105, 110, 116], [109, 97, 105, 110], [105, 102], [101, 108, 115, 101], [119, 104, 105, 108, 101], [112, 114, 105, 110, 116], [114, 101, 116, 117, 114, 110], [110, 117, 108, 108], [116, 104, 105, 115], [110, 101, 119], [114, 101, 97, 100], [100, 101, 99, 108, 97, 115, 115, 105, 102, 121], [108, 101, 110, 103, 116, 104]]
def isWordB (l : List UInt8) : Bool := words.contains l

/-- The words with blanks between. -/
def wordsText : List UInt8 := [32, 99, 108, 97, 115, 115, 32, 101, 120, 116, 101, 110, 100, 115, 32, 105, 110, 116, 32, 109, 97, 105, 110, 32, 105, 102, 32, 101, 108, 115, 101, 32, 119, 104, 105, 108, 101, 32, 112, 114, 105, 110, 116, 32, 114, 101, 116, 117, 114, 110, 32, 110, 117, 108, 108, 32, 116, 104, 105, 115, 32, 110, 101, 119, 32, 114, 101, 97, 100, 32, 100, 101, 99, 108, 97, 115, 115, 105, 102, 121, 32, 108, 101, 110, 103, 116, 104, 32]

theorem prefix_seg (l r : List UInt8) (hsp : 32 ∉ l) (h : (32 :: (l ++ [32])).isPrefixOf r = true) : r[0]? = some 32 ∧ l = (r.drop 1).takeWhile (· != 32) := by
  obtain ⟨t, rfl⟩ := List.isPrefixOf_iff_prefix.1 h
  refine ⟨rfl, ?_⟩
  simp only [List.cons_append, List.drop_succ_cons, List.drop_zero, List.append_assoc]
  rw [List.takeWhile_append_of_pos (by intro a ha; simp; rintro rfl; exact hsp ha)]
  simp

theorem segs_words : ∀ i, i < 89 → wordsText[i]? = some 32 → (wordsText.drop (i + 1)).takeWhile (· != 32) = [] ∨ (wordsText.drop (i + 1)).takeWhile (· != 32) ∈ words := by decide +kernel
theorem words_in : ∀ l ∈ words, Lib.contains wordsText (32 :: (l ++ [32])) = true := by decide +kernel
theorem words_blank : ∀ l ∈ words, 32 ∉ l := by decide +kernel

theorem contains_words (l : List UInt8) (hne : l ≠ []) (hsp : 32 ∉ l) : Lib.contains wordsText (32 :: (l ++ [32])) = isWordB l := by
  rw [Bool.eq_iff_iff]
  constructor
  · intro h
    rcases Lib.index_spec wordsText (32 :: (l ++ [32])) with ⟨h1, _⟩ | ⟨i, _, hi, hocc, _⟩
    · simp [Lib.contains, h1] at h
    · obtain ⟨h0, h1⟩ := prefix_seg l _ hsp hocc
      have hi' : i < 89 := by
        have : i ≤ wordsText.length := hi
        rcases Nat.lt_or_ge i 89 with h | h
        · exact h
        · have hl : wordsText.length = 88 := rfl
          omega
      have h2 : wordsText[i]? = some 32 := by simpa using h0
      rw [List.drop_drop] at h1
      rcases segs_words i hi' h2 with h | h
      · exact absurd (h1.trans h) hne
      · rw [← h1] at h; simpa [isWordB] using h
  · intro h
    exact words_in l (by simpa [isWordB] using h)

theorem indexByte_none (l : List UInt8) (c : UInt8) : (decide (0 ≤ Lib.indexByte l c)) = l.contains c := (Lib.contains_iff_indexByte l c).symm

theorem refIsWord_any (s : ByteArray) (w : World) : Calls Try.prog 77 #[.string s] w fun e w' => e = .returned (.bool (isWordB s.data.toList)) ∧ w = w' := by
  go_enter Try.func77, Try.ntmps77
  go_wp2
  all_goals first | contradiction | (simp_all; done) | skip
  all_goals go_ret
  all_goals refine ⟨ret_bool ?_, rfl⟩
  all_goals simp_all [isWordB, words, Lib.toList_data]

theorem isWord_any (s : ByteArray) (hs : s.size ≤ 1000) (m : Int) (w : World) (hm : w.cell? ⟨0, 0, none⟩ = some (.int .i64 m)) :
    Calls Try.prog 70 #[.string s] w fun e w' => e = .returned (.bool (isWordB s.data.toList)) ∧ w = w' := by
  by_cases hne : s.toList = []
  · go_enter Try.func70, Try.ntmps70
    go_wp2
    go_ret
    refine ⟨ret_bool ?_, rfl⟩
    rw [← Lib.toList_data, hne]; rfl
  have HN : Hid (s.data.toList ≠ []) := by rw [← Lib.toList_data]; exact hne
  have hb : (!s.toList.isEmpty) = true := by simp [hne]
  by_cases hsp : 32 ∈ s.data.toList
  · have h1 : decide (0 ≤ Lib.indexByte s.data.toList 32) = true := by rw [indexByte_none]; exact List.contains_iff_mem.2 hsp
    have H2 : Hid (false = isWordB s.data.toList) := by
      cases hq : isWordB s.data.toList with
      | false => rfl
      | true => exact absurd hsp (words_blank _ (List.contains_iff_mem.1 hq))
    clear hsp
    go_enter Try.func70, Try.ntmps70
    go_wp2_with fail
    refine (Try.strings_Contains_one _ _ _).mono ?_
    rintro e w' ⟨rfl, rfl⟩
    go_wp2
    go_ret
    exact ⟨ret_bool H2.out, rfl⟩
  · have h1 : decide (0 ≤ Lib.indexByte s.data.toList 32) = false := by rw [indexByte_none, Bool.eq_false_iff]; exact fun h => hsp (List.contains_iff_mem.1 h)
    have H2 : Hid (Lib.contains wordsText (32 :: (s.data.toList ++ [32])) = isWordB s.data.toList) := contains_words _ HN.out hsp
    clear hsp
    go_enter Try.func70, Try.ntmps70
    go_wp2_with fail
    refine (Try.strings_Contains_one _ _ _).mono ?_
    rintro e w' ⟨rfl, rfl⟩
    go_wp2_with fail
    refine (Try.strings_Contains _ _ m _ ?_ hm).mono ?_
    · decide
    rintro e w' ⟨rfl, rfl⟩
    generalize hq : Lib.contains _ _ = q
    have H3 : Hid (q = isWordB s.data.toList) := by
      rw [← H2.out, ← hq]; congr 1
    clear hq
    go_wp2
    go_ret
    exact ⟨ret_bool H3.out, rfl⟩

/-- A name: its first byte a letter, all of them letters, figures, '_'; sixteen at most; no word. -/
def isNameB (s : ByteArray) : Bool := match s.data.toList with
  | [] => false
  | c :: r => decide ((c :: r).length ≤ 16) && letterB c && (c :: r).all withinB && !isWordB (c :: r)

theorem takeWhile_all {α : Type} (p : α → Bool) (l : List α) : ((l.takeWhile p).length = l.length) = (l.all p = true) := by
  induction l with
  | nil => simp
  | cons a l ih =>
    by_cases h : p a = true
    · simp [List.takeWhile_cons_of_pos h, h]; simpa using ih
    · simp [List.takeWhile_cons_of_neg h, h]

theorem isName_any (s : ByteArray) (hs : s.size ≤ maxS) (m : Int) (w : World) (hm : w.cell? ⟨0, 0, none⟩ = some (.int .i64 m)) :
    Calls Try.prog 42 #[.string s] w fun e w' => e = .returned (.bool (isNameB s)) ∧ w = w' := by
  by_cases h0 : s.data.toList = []
  · have h1 : s.toList = [] := by rw [Lib.toList_data]; exact h0
    have H2 : Hid (isNameB s = false) := by unfold isNameB; rw [h0]; rfl
    clear h0
    go_enter Try.func42, Try.ntmps42
    go_wp2
    go_ret
    exact ⟨ret_bool H2.out.symm, rfl⟩
  have h1 : (!s.toList.isEmpty) = true := by rw [Lib.toList_data]; simpa using h0
  have h1' : ¬ s.toList = [] := by rw [Lib.toList_data]; exact h0
  obtain ⟨c, r, hcr⟩ : ∃ c r, s.data.toList = c :: r := by
    cases h : s.data.toList with
    | nil => exact absurd h h0
    | cons c r => exact ⟨c, r, rfl⟩
  have hsz : s.size = r.length + 1 := by
    have : s.size = s.data.toList.length := by simp
    rw [this, hcr]; rfl
  have hpos : 0 < s.size := by omega
  have H2 : Hid (isNameB s = (decide ((c :: r).length ≤ 16) && letterB c && (c :: r).all withinB && !isWordB (c :: r))) := by unfold isNameB; rw [hcr]; rfl
  have hc0 : s[0] = c := by
    have h2 : s.data[0]? = some s[0] := by rw [Array.getElem?_eq_getElem (by simpa using hpos)]; rfl
    have : s.data.toList[0]? = some s[0] := by rw [Array.getElem?_toList]; exact h2
    rw [hcr] at this; simpa using this.symm
  have h3 : (((s.data.toList.takeWhile withinB).length : Int) == (s.size : Int)) = (c :: r).all withinB := by
    have h2 : s.size = s.data.toList.length := by simp
    have := takeWhile_all withinB s.data.toList
    rw [Bool.eq_iff_iff, ← hcr, ← this, h2]; simp only [beq_iff_eq]; omega
  have HSZ := Lib.hid hsz
  have HCR := Lib.hid hcr
  have HC0 := Lib.hid hc0
  generalize hall : (c :: r).all withinB = ball at *
  have HW : Hid (isWordB (c :: r) = isWordB s.data.toList) := by rw [HCR.out]; rfl
  have HL : Hid ((c :: r).length = s.size) := by rw [HSZ.out]; rfl
  clear h0 hcr hsz hc0 hall
  go_enter Try.func42, Try.ntmps42
  go_wp2_with (first
    | (go_at_call 67; rw [HC0.out]; refine (begins_any _ _).mono ?_; rintro e w' ⟨rfl, rfl⟩)
    | (go_at_call 68; refine (run_any _ hs _).mono ?_; rintro e w' ⟨rfl, rfl⟩)
    | (go_at_call 70; refine (isWord_any _ ?_ m _ hm).mono ?_; · omega
       rintro e w' ⟨rfl, rfl⟩))
  all_goals go_ret
  all_goals refine ⟨ret_bool ?_, rfl⟩
  all_goals rw [H2.out, HW.out, HL.out]
  all_goals simp_all
  all_goals omega

theorem len_data (s : ByteArray) : s.data.toList.length = s.size := rfl

theorem isNameB_eq (s : ByteArray) (hpos : 0 < s.size) : isNameB s = (decide (s.size ≤ 16) && letterB s[0] && s.data.toList.all withinB && !isWordB s.data.toList) := by
  have h2 : s.size = s.data.toList.length := by simp
  have h3 : s.data.toList[0]? = some s[0] := by rw [Array.getElem?_toList, Array.getElem?_eq_getElem (by simpa using hpos)]; rfl
  unfold isNameB
  rw [h2]
  cases h : s.data.toList with
  | nil => rw [h] at h2; simp only [List.length_nil] at h2; omega
  | cons c r => rw [h] at h3; simp only [List.getElem?_cons_zero, Option.some.injEq] at h3; rw [← h3]

theorem refIsName_any (s : ByteArray) (hs : s.size ≤ maxS) (w : World) :
    Calls Try.prog 51 #[.string s] w fun e w' => e = .returned (.bool (isNameB s)) ∧ w = w' := by
  unfold maxS at hs
  by_cases hpos : 0 < s.size
  · have H2 := Lib.hid (isNameB_eq s hpos)
    by_cases hl : s.size ≤ 16
    · cases hlt : letterB s[0] with
      | false =>
        have H3 : Hid (isNameB s = false) := by show isNameB s = false; rw [H2.out, hlt]; simp
        go_enter Try.func51, Try.ntmps51
        go_wp2_with (go_at_call 76; refine (letter_any _ _).mono ?_; rintro e w' ⟨rfl, rfl⟩)
        go_ret
        exact ⟨ret_bool H3.out.symm, rfl⟩
      | true =>
        cases hwd : isWordB s.data.toList with
        | true =>
          have H3 : Hid (isNameB s = false) := by show isNameB s = false; rw [H2.out, hwd]; simp
          go_enter Try.func51, Try.ntmps51
          go_wp2_with (first
            | (go_at_call 76; refine (letter_any _ _).mono ?_; rintro e w' ⟨rfl, rfl⟩)
            | (go_at_call 77; refine (refIsWord_any _ _).mono ?_; rintro e w' ⟨rfl, rfl⟩))
          go_ret
          exact ⟨ret_bool H3.out.symm, rfl⟩
        | false =>
          have H3 : Hid (isNameB s = s.data.toList.all withinB) := by show isNameB s = _; rw [H2.out, hlt, hwd]; simp [hl]
          go_enter Try.func51, Try.ntmps51
          go_wp2_with (first
            | (go_at_call 76; refine (letter_any _ _).mono ?_; rintro e w' ⟨rfl, rfl⟩)
            | (go_at_call 77; refine (refIsWord_any _ _).mono ?_; rintro e w' ⟨rfl, rfl⟩))
          clear hlt hwd
          go_loop [3] (fun v3 => ∃ k : Nat, k ≤ s.size ∧ v3 = .int .i64 k ∧ s.data.toList.all withinB = (s.data.toList.drop k).all withinB) (fun v3 => s.size - (intOf v3).toNat)
          case atStart => exact ⟨0, by omega, rfl, rfl⟩
          case round =>
            obtain ⟨k, hk, rfl, hq⟩ := hrel
            have HQ := Lib.hid hq
            clear hq
            by_cases hlt : k < s.size
            · have HD : Hid (s.data.toList.drop k = s[k] :: s.data.toList.drop (k + 1)) := by
                have : s.data.toList.drop k = s[k] :: s.data.toList.drop (k + 1) := by rw [List.drop_eq_getElem_cons (by simpa using hlt)]; rfl
                exact this
              cases hw : withinB s[k] with
              | false =>
                go_wp2_with (go_at_call 78; refine (within_any _ _).mono ?_; rintro e w' ⟨rfl, rfl⟩)
                go_ret
                refine ⟨ret_bool ?_, rfl⟩
                rw [H3.out, HQ.out, HD.out]; simp [hw]
              | true =>
                go_wp2_with (go_at_call 78; refine (within_any _ _).mono ?_; rintro e w' ⟨rfl, rfl⟩)
                go_round
                case rel => exact ⟨k + 1, by omega, by go_num, by rw [HQ.out, HD.out]; simp [hw]⟩
                case measure => simp [intOf]; omega
            · have HD : Hid (s.data.toList.drop k = []) := List.drop_of_length_le (by simpa using hlt)
              go_wp2
              go_ret
              refine ⟨ret_bool ?_, rfl⟩
              rw [H3.out, HQ.out, HD.out]; rfl
    · go_enter Try.func51, Try.ntmps51
      go_wp2
      all_goals go_ret
      all_goals refine ⟨ret_bool ?_, rfl⟩
      all_goals rw [H2.out]; simp [hl]
  · have H2 : Hid (isNameB s = false) := by
      have h2 : s.data.toList = [] := by
        have : s.data.toList.length = 0 := by rw [len_data]; omega
        exact List.length_eq_zero_iff.1 this
      unfold isNameB; rw [h2]; rfl
    go_enter Try.func51, Try.ntmps51
    go_wp2
    all_goals go_ret
    all_goals exact ⟨ret_bool H2.out.symm, rfl⟩
end Go.Proofs.Ytjciafpihdbedaa
end
section
/- slices.ContainsFunc, IndexFunc; slots and types. -/
namespace Go.Proofs.Ytjciafpihdbedaa
open Go.RowKit

def idxB {α : Type} (p : α → Bool) : List α → Int
  | [] => -1
  | x :: l => if p x then 0 else if idxB p l = -1 then -1 else idxB p l + 1
theorem idxB_ge {α : Type} (p : α → Bool) : ∀ l : List α, -1 ≤ idxB p l
  | [] => Int.le_refl _
  | x :: l => by have := idxB_ge p l; unfold idxB; split; omega; split <;> omega
theorem idxB_any {α : Type} (p : α → Bool) : ∀ l : List α, decide (0 ≤ idxB p l) = l.any p
  | [] => rfl
  | x :: l => by
    have h := idxB_any p l
    have h2 := idxB_ge p l
    unfold idxB
    by_cases hx : p x = true
    · simp [hx]
    · rw [if_neg hx, List.any_cons, ← h]
      simp only [hx, Bool.false_or]
      split
      · rename_i h3; rw [h3]
      · rename_i h3; rw [Bool.eq_iff_iff]; simp; omega
theorem idxB_hit {α : Type} (p : α → Bool) : ∀ (l : List α) (k : Nat) (x : α), l[k]? = some x → p x = true → (∀ y ∈ l.take k, p y = false) → idxB p l = k
  | [], k, x, h, _, _ => by simp at h
  | y :: l, 0, x, h, hp, _ => by simp at h; subst h; simp [idxB, hp]
  | y :: l, k + 1, x, h, hp, hno => by
    have hy := hno y (by simp)
    have := idxB_hit p l k x (by simpa using h) hp (fun z hz => hno z (by simp [hz]))
    unfold idxB
    rw [if_neg (by simp [hy]), if_neg (by omega), this]; simp
theorem idxB_none {α : Type} (p : α → Bool) : ∀ (l : List α), (∀ y ∈ l, p y = false) → idxB p l = -1
  | [], _ => rfl
  | y :: l, hno => by
    have hy := hno y (by simp)
    unfold idxB
    rw [if_neg (by simp [hy]), if_pos (idxB_none p l fun z hz => hno z (by simp [hz]))]



theorem indexSlots_any {α : Type} (R : List Value → α → Prop) (l : List α) (p : α → Bool) (g : FuncId) (v : Value) (w : World) (hg : ∀ args W, (callFunc g args).run Try.prog W = .ok (.enter g args) W) (hlen : ∀ cs x, R cs x → cs.length = 2) (hv : RSl 2 R w (· < w.heap.size) v l)
    (HF : Hid (∀ (W : World) cs x, Below w.heap.size w W → x ∈ l → R cs x → Calls Try.prog g #[.agg cs.toArray] W fun e w' => e = .returned (.bool (p x)) ∧ Below W.heap.size W w')) :
    Calls Try.prog 91 #[v, .func (.func g) #[] #[]] w fun e w' => e = .returned (.int .i64 (idxB p l)) ∧ Below w.heap.size w w' := by
  obtain ⟨a, n, cap, rfl, hn, hcap, hmax, hel⟩ := hv
  have H := Lib.hid hel
  have HN := Lib.hid hn
  have HL := Lib.hid hlen
  unfold maxC at hmax
  clear hel hn hlen
  go_enter Try.func91, Try.ntmps91
  go_wp2
  go_loopw [8] (fun v8 w' => ∃ j : Nat, j ≤ n ∧ v8 = .int .i64 j ∧ Hid (∀ y ∈ l.take j, p y = false) ∧ Hid (Below w.heap.size w w')) (fun v8 _ => n - (intOf v8).toNat)
  case atStart => exact ⟨0, by omega, rfl, (by show ∀ y ∈ l.take 0, p y = false; simp), Below.refl _ _⟩
  case round =>
    obtain ⟨j, hj, rfl, HP, HB⟩ := hrel
    by_cases hlt : j < n
    · obtain ⟨x, hx⟩ : ∃ x, l[j]? = some x := ⟨_, List.getElem?_eq_getElem (by rw [HN.out]; exact hlt)⟩
      have HX := Lib.hid hx
      clear hx
      obtain ⟨b, off, cs, rfl, hbl, hc, hr⟩ := H.out j _ HX.out
      obtain ⟨u0, u1, rfl⟩ := len2 (HL.out _ _ hr)
      have HR := Lib.hid hr
      have HC := cellsAt_of_block (HB.out.block b hbl) hc
      simp only [cellsAt, and_true] at HC
      obtain ⟨c0, c1⟩ := HC
      clear hc hr
      go_wp2_with fail
      refine (HF.out _ _ _ HB.out (List.mem_of_getElem? HX.out) HR.out).mono ?_
      rintro e w1 ⟨rfl, hb1⟩
      have HB1 : Hid (Below w.heap.size w w1) := HB.out.trans (hb1.mono HB.out.size)
      clear hb1
      cases hp : p x with
      | true =>
        go_wp2
        go_ret
        exact ⟨by rw [idxB_hit p l j x HX.out hp HP.out]; rfl, HB1.out⟩
      | false =>
        go_wp2
        refine ⟨⟨j + 1, by omega, by go_num, ?_, HB1⟩, by simp [intOf]; omega⟩
        show ∀ y ∈ l.take (j + 1), p y = false
        rw [List.take_add_one, HX.out]
        intro y hy
        simp only [Option.toList_some, List.mem_append, List.mem_singleton] at hy
        rcases hy with hy | rfl
        · exact HP.out y hy
        · exact hp
    · obtain rfl : j = n := by omega
      have et := List.take_of_length_le (l := l) (i := j) (by rw [HN.out]; exact Nat.le_refl _)
      have HE : Hid (idxB p l = -1) := idxB_none p l (by have := HP.out; rw [et] at this; exact this)
      clear et
      go_wp2
      go_ret
      exact ⟨by rw [HE.out]; rfl, HB.out⟩

theorem indexExprs_any {α : Type} (R : List Value → α → Prop) (l : List α) (p : α → Bool) (g : FuncId) (v : Value) (w : World) (hg : ∀ args W, (callFunc g args).run Try.prog W = .ok (.enter g args) W) (hlen : ∀ cs x, R cs x → cs.length = 4) (hv : RSl 4 R w (· < w.heap.size) v l)
    (HF : Hid (∀ (W : World) cs x, Below w.heap.size w W → x ∈ l → R cs x → Calls Try.prog g #[.agg cs.toArray] W fun e w' => e = .returned (.bool (p x)) ∧ Below W.heap.size W w')) :
    Calls Try.prog 95 #[v, .func (.func g) #[] #[]] w fun e w' => e = .returned (.int .i64 (idxB p l)) ∧ Below w.heap.size w w' := by
  obtain ⟨a, n, cap, rfl, hn, hcap, hmax, hel⟩ := hv
  have H := Lib.hid hel
  have HN := Lib.hid hn
  have HL := Lib.hid hlen
  unfold maxC at hmax
  clear hel hn hlen
  go_enter Try.func95, Try.ntmps95
  go_wp2
  go_loopw [8] (fun v8 w' => ∃ j : Nat, j ≤ n ∧ v8 = .int .i64 j ∧ Hid (∀ y ∈ l.take j, p y = false) ∧ Hid (Below w.heap.size w w')) (fun v8 _ => n - (intOf v8).toNat)
  case atStart => exact ⟨0, by omega, rfl, (by show ∀ y ∈ l.take 0, p y = false; simp), Below.refl _ _⟩
  case round =>
    obtain ⟨j, hj, rfl, HP, HB⟩ := hrel
    by_cases hlt : j < n
    · obtain ⟨x, hx⟩ : ∃ x, l[j]? = some x := ⟨_, List.getElem?_eq_getElem (by rw [HN.out]; exact hlt)⟩
      have HX := Lib.hid hx
      clear hx
      obtain ⟨b, off, cs, rfl, hbl, hc, hr⟩ := H.out j _ HX.out
      obtain ⟨u0, u1, u2, u3, rfl⟩ := len4 (HL.out _ _ hr)
      have HR := Lib.hid hr
      have HC := cellsAt_of_block (HB.out.block b hbl) hc
      simp only [cellsAt, and_true] at HC
      obtain ⟨c0, c1, c2, c3⟩ := HC
      clear hc hr
      go_wp2_with fail
      refine (HF.out _ _ _ HB.out (List.mem_of_getElem? HX.out) HR.out).mono ?_
      rintro e w1 ⟨rfl, hb1⟩
      have HB1 : Hid (Below w.heap.size w w1) := HB.out.trans (hb1.mono HB.out.size)
      clear hb1
      cases hp : p x with
      | true =>
        go_wp2
        go_ret
        exact ⟨by rw [idxB_hit p l j x HX.out hp HP.out]; rfl, HB1.out⟩
      | false =>
        go_wp2
        refine ⟨⟨j + 1, by omega, by go_num, ?_, HB1⟩, by simp [intOf]; omega⟩
        show ∀ y ∈ l.take (j + 1), p y = false
        rw [List.take_add_one, HX.out]
        intro y hy
        simp only [Option.toList_some, List.mem_append, List.mem_singleton] at hy
        rcases hy with hy | rfl
        · exact HP.out y hy
        · exact hp
    · obtain rfl : j = n := by omega
      have et := List.take_of_length_le (l := l) (i := j) (by rw [HN.out]; exact Nat.le_refl _)
      have HE : Hid (idxB p l = -1) := idxB_none p l (by have := HP.out; rw [et] at this; exact this)
      clear et
      go_wp2
      go_ret
      exact ⟨by rw [HE.out]; rfl, HB.out⟩

theorem indexStmts_any {α : Type} (R : List Value → α → Prop) (l : List α) (p : α → Bool) (g : FuncId) (v : Value) (w : World) (hg : ∀ args W, (callFunc g args).run Try.prog W = .ok (.enter g args) W) (hlen : ∀ cs x, R cs x → cs.length = 7) (hv : RSl 7 R w (· < w.heap.size) v l)
    (HF : Hid (∀ (W : World) cs x, Below w.heap.size w W → x ∈ l → R cs x → Calls Try.prog g #[.agg cs.toArray] W fun e w' => e = .returned (.bool (p x)) ∧ Below W.heap.size W w')) :
    Calls Try.prog 82 #[v, .func (.func g) #[] #[]] w fun e w' => e = .returned (.int .i64 (idxB p l)) ∧ Below w.heap.size w w' := by
  obtain ⟨a, n, cap, rfl, hn, hcap, hmax, hel⟩ := hv
  have H := Lib.hid hel
  have HN := Lib.hid hn
  have HL := Lib.hid hlen
  unfold maxC at hmax
  clear hel hn hlen
  go_enter Try.func82, Try.ntmps82
  go_wp2
  go_loopw [8] (fun v8 w' => ∃ j : Nat, j ≤ n ∧ v8 = .int .i64 j ∧ Hid (∀ y ∈ l.take j, p y = false) ∧ Hid (Below w.heap.size w w')) (fun v8 _ => n - (intOf v8).toNat)
  case atStart => exact ⟨0, by omega, rfl, (by show ∀ y ∈ l.take 0, p y = false; simp), Below.refl _ _⟩
  case round =>
    obtain ⟨j, hj, rfl, HP, HB⟩ := hrel
    by_cases hlt : j < n
    · obtain ⟨x, hx⟩ : ∃ x, l[j]? = some x := ⟨_, List.getElem?_eq_getElem (by rw [HN.out]; exact hlt)⟩
      have HX := Lib.hid hx
      clear hx
      obtain ⟨b, off, cs, rfl, hbl, hc, hr⟩ := H.out j _ HX.out
      obtain ⟨u0, u1, u2, u3, u4, u5, u6, rfl⟩ := len7 (HL.out _ _ hr)
      have HR := Lib.hid hr
      have HC := cellsAt_of_block (HB.out.block b hbl) hc
      simp only [cellsAt, and_true] at HC
      obtain ⟨c0, c1, c2, c3, c4, c5, c6⟩ := HC
      clear hc hr
      go_wp2_with fail
      refine (HF.out _ _ _ HB.out (List.mem_of_getElem? HX.out) HR.out).mono ?_
      rintro e w1 ⟨rfl, hb1⟩
      have HB1 : Hid (Below w.heap.size w w1) := HB.out.trans (hb1.mono HB.out.size)
      clear hb1
      cases hp : p x with
      | true =>
        go_wp2
        go_ret
        exact ⟨by rw [idxB_hit p l j x HX.out hp HP.out]; rfl, HB1.out⟩
      | false =>
        go_wp2
        refine ⟨⟨j + 1, by omega, by go_num, ?_, HB1⟩, by simp [intOf]; omega⟩
        show ∀ y ∈ l.take (j + 1), p y = false
        rw [List.take_add_one, HX.out]
        intro y hy
        simp only [Option.toList_some, List.mem_append, List.mem_singleton] at hy
        rcases hy with hy | rfl
        · exact HP.out y hy
        · exact hp
    · obtain rfl : j = n := by omega
      have et := List.take_of_length_le (l := l) (i := j) (by rw [HN.out]; exact Nat.le_refl _)
      have HE : Hid (idxB p l = -1) := idxB_none p l (by have := HP.out; rw [et] at this; exact this)
      clear et
      go_wp2
      go_ret
      exact ⟨by rw [HE.out]; rfl, HB.out⟩

theorem containsSlots_any {α : Type} (R : List Value → α → Prop) (l : List α) (p : α → Bool) (g : FuncId) (v : Value) (w : World) (hg : ∀ args W, (callFunc g args).run Try.prog W = .ok (.enter g args) W) (hlen : ∀ cs x, R cs x → cs.length = 2) (hv : RSl 2 R w (· < w.heap.size) v l)
    (HF : Hid (∀ (W : World) cs x, Below w.heap.size w W → x ∈ l → R cs x → Calls Try.prog g #[.agg cs.toArray] W fun e w' => e = .returned (.bool (p x)) ∧ Below W.heap.size W w')) :
    Calls Try.prog 71 #[v, .func (.func g) #[] #[]] w fun e w' => e = .returned (.bool (l.any p)) ∧ Below w.heap.size w w' := by
  have HL := Lib.hid hlen
  have HV := Lib.hid hv
  clear hlen hv
  have HG := Lib.hid hg
  clear hg
  go_enter Try.func71, Try.ntmps71
  go_wp2_with fail
  refine (indexSlots_any R l p g v w HG.out HL.out HV.out HF).mono ?_
  rintro e w' ⟨rfl, hb⟩
  have HB := Lib.hid hb
  clear hb
  go_wp2
  go_ret
  exact ⟨by rw [← idxB_any]; rfl, HB.out⟩

theorem containsExprs_any {α : Type} (R : List Value → α → Prop) (l : List α) (p : α → Bool) (g : FuncId) (v : Value) (w : World) (hg : ∀ args W, (callFunc g args).run Try.prog W = .ok (.enter g args) W) (hlen : ∀ cs x, R cs x → cs.length = 4) (hv : RSl 4 R w (· < w.heap.size) v l)
    (HF : Hid (∀ (W : World) cs x, Below w.heap.size w W → x ∈ l → R cs x → Calls Try.prog g #[.agg cs.toArray] W fun e w' => e = .returned (.bool (p x)) ∧ Below W.heap.size W w')) :
    Calls Try.prog 86 #[v, .func (.func g) #[] #[]] w fun e w' => e = .returned (.bool (l.any p)) ∧ Below w.heap.size w w' := by
  have HL := Lib.hid hlen
  have HV := Lib.hid hv
  clear hlen hv
  have HG := Lib.hid hg
  clear hg
  go_enter Try.func86, Try.ntmps86
  go_wp2_with fail
  refine (indexExprs_any R l p g v w HG.out HL.out HV.out HF).mono ?_
  rintro e w' ⟨rfl, hb⟩
  have HB := Lib.hid hb
  clear hb
  go_wp2
  go_ret
  exact ⟨by rw [← idxB_any]; rfl, HB.out⟩

theorem containsStmts_any {α : Type} (R : List Value → α → Prop) (l : List α) (p : α → Bool) (g : FuncId) (v : Value) (w : World) (hg : ∀ args W, (callFunc g args).run Try.prog W = .ok (.enter g args) W) (hlen : ∀ cs x, R cs x → cs.length = 7) (hv : RSl 7 R w (· < w.heap.size) v l)
    (HF : Hid (∀ (W : World) cs x, Below w.heap.size w W → x ∈ l → R cs x → Calls Try.prog g #[.agg cs.toArray] W fun e w' => e = .returned (.bool (p x)) ∧ Below W.heap.size W w')) :
    Calls Try.prog 64 #[v, .func (.func g) #[] #[]] w fun e w' => e = .returned (.bool (l.any p)) ∧ Below w.heap.size w w' := by
  have HL := Lib.hid hlen
  have HV := Lib.hid hv
  clear hlen hv
  have HG := Lib.hid hg
  clear hg
  go_enter Try.func64, Try.ntmps64
  go_wp2_with fail
  refine (indexStmts_any R l p g v w HG.out HL.out HV.out HF).mono ?_
  rintro e w' ⟨rfl, hb⟩
  have HB := Lib.hid hb
  clear hb
  go_wp2
  go_ret
  exact ⟨by rw [← idxB_any]; rfl, HB.out⟩

end Go.Proofs.Ytjciafpihdbedaa
end
section
/- Types and slots: what show and the reference take for one. -/
namespace Go.Proofs.Ytjciafpihdbedaa
open Go.RowKit

def isTypeB (s : ByteArray) : Bool := s.data.toList == [105, 110, 116] || s.data.toList == [105, 110, 116, 91, 93] || isNameB s
def slotB (x : Slot) : Bool := isTypeB x.type && isNameB x.name

/-- The library's variable that strings.Contains reads: some number. -/
def HasMax (w : World) : Prop := ∃ m, w.cell? ⟨0, 0, none⟩ = some (.int .i64 m)
theorem HasMax.keep {w w' : World} (h : HasMax w) (hb : Below w.heap.size w w') : HasMax w' :=
  let ⟨m, hm⟩ := h
  ⟨m, (hb.cell (p := ⟨0, 0, none⟩) (cell_lt hm)).trans hm⟩

theorem name_in {w : World} (hM : HasMax w) (s : ByteArray) (hs : s.size ≤ maxS) : Calls Try.prog 42 #[.string s] w fun e w' => e = .returned (.bool (isNameB s)) ∧ w = w' :=
  let ⟨m, hm⟩ := hM
  isName_any s hs m w hm

theorem typ_any (s : ByteArray) (hs : s.size ≤ maxS) (w : World) (hM : HasMax w) : Calls Try.prog 73 #[.string s] w fun e w' => e = .returned (.bool (isTypeB s)) ∧ w = w' := by
  cases h1 : s.data.toList == [105, 110, 116] with
  | true =>
    have k1 : (s.toList == [105, 110, 116]) = true := by rw [Lib.toList_data]; exact h1
    have H := Lib.hid (show isTypeB s = true by simp only [isTypeB, h1]; rfl)
    clear h1
    go_enter Try.func73, Try.ntmps73
    go_wp2
    go_ret
    exact ⟨ret_bool H.out.symm, rfl⟩
  | false =>
    cases h2 : s.data.toList == [105, 110, 116, 91, 93] with
    | true =>
      have k1 : (s.toList == [105, 110, 116]) = false := by rw [Lib.toList_data]; exact h1
      have k2 : (s.toList == [105, 110, 116, 91, 93]) = true := by rw [Lib.toList_data]; exact h2
      have H := Lib.hid (show isTypeB s = true by simp only [isTypeB, h1, h2]; rfl)
      clear h1 h2
      go_enter Try.func73, Try.ntmps73
      go_wp2
      go_ret
      exact ⟨ret_bool H.out.symm, rfl⟩
    | false =>
      have k1 : (s.toList == [105, 110, 116]) = false := by rw [Lib.toList_data]; exact h1
      have k2 : (s.toList == [105, 110, 116, 91, 93]) = false := by rw [Lib.toList_data]; exact h2
      have H := Lib.hid (show isTypeB s = isNameB s by simp only [isTypeB, h1, h2, Bool.false_or])
      clear h1 h2
      go_enter Try.func73, Try.ntmps73
      go_wp2_with fail
      refine (name_in hM s hs).mono ?_
      rintro e w' ⟨rfl, rfl⟩
      go_wp2
      all_goals go_ret
      all_goals exact ⟨ret_bool H.out.symm, rfl⟩
theorem refType_any (s : ByteArray) (hs : s.size ≤ maxS) (w : World) : Calls Try.prog 53 #[.string s] w fun e w' => e = .returned (.bool (isTypeB s)) ∧ w = w' := by
  cases h1 : s.data.toList == [105, 110, 116] with
  | true =>
    have k1 : (s.toList == [105, 110, 116]) = true := by rw [Lib.toList_data]; exact h1
    have H := Lib.hid (show isTypeB s = true by simp only [isTypeB, h1]; rfl)
    clear h1
    go_enter Try.func53, Try.ntmps53
    go_wp2
    go_ret
    exact ⟨ret_bool H.out.symm, rfl⟩
  | false =>
    cases h2 : s.data.toList == [105, 110, 116, 91, 93] with
    | true =>
      have k1 : (s.toList == [105, 110, 116]) = false := by rw [Lib.toList_data]; exact h1
      have k2 : (s.toList == [105, 110, 116, 91, 93]) = true := by rw [Lib.toList_data]; exact h2
      have H := Lib.hid (show isTypeB s = true by simp only [isTypeB, h1, h2]; rfl)
      clear h1 h2
      go_enter Try.func53, Try.ntmps53
      go_wp2
      go_ret
      exact ⟨ret_bool H.out.symm, rfl⟩
    | false =>
      have k1 : (s.toList == [105, 110, 116]) = false := by rw [Lib.toList_data]; exact h1
      have k2 : (s.toList == [105, 110, 116, 91, 93]) = false := by rw [Lib.toList_data]; exact h2
      have H := Lib.hid (show isTypeB s = isNameB s by simp only [isTypeB, h1, h2, Bool.false_or])
      clear h1 h2
      go_enter Try.func53, Try.ntmps53
      go_wp2_with fail
      refine (refIsName_any s hs w).mono ?_
      rintro e w' ⟨rfl, rfl⟩
      go_wp2
      all_goals go_ret
      all_goals exact ⟨ret_bool H.out.symm, rfl⟩

theorem slot_any (a b : ByteArray) (ha : a.size ≤ maxS) (hb : b.size ≤ maxS) (w : World) (hM : HasMax w) :
    Calls Try.prog 44 #[.agg #[.string a, .string b]] w fun e w' => e = .returned (.bool (slotB ⟨a, b⟩)) ∧ Below w.heap.size w w' := by
  have HM := Lib.hid hM
  clear hM
  go_enter Try.func44, Try.ntmps44
  go_wp2_with fail
  refine (typ_any _ ha _ (HM.out.keep (by go_grown))).mono ?_
  rintro e w' ⟨rfl, rfl⟩
  cases h1 : isTypeB a with
  | false =>
    go_wp2
    go_ret
    exact ⟨ret_bool (by simp [slotB, h1]), by go_grown⟩
  | true =>
    go_wp2_with fail
    refine (name_in (HM.out.keep (by go_grown)) _ hb).mono ?_
    rintro e w' ⟨rfl, rfl⟩
    go_wp2
    all_goals go_ret
    all_goals exact ⟨ret_bool (by simp [slotB, h1]), by go_grown⟩

theorem slots1_any (a b : ByteArray) (ha : a.size ≤ maxS) (hb : b.size ≤ maxS) (w : World) (hM : HasMax w) :
    Calls Try.prog 72 #[.agg #[.string a, .string b]] w fun e w' => e = .returned (.bool (!slotB ⟨a, b⟩)) ∧ Below w.heap.size w w' := by
  have HM := Lib.hid hM
  clear hM
  go_enter Try.func72, Try.ntmps72
  go_wp2_with fail
  refine (slot_any _ _ ha hb _ (HM.out.keep (by go_grown))).mono ?_
  rintro e w' ⟨rfl, hb⟩
  have HB : Hid (Below w.heap.size w w') := afterCall (by go_grown) hb
  clear hb
  go_wp2
  go_ret
  exact ⟨rfl, HB.out⟩

theorem slots_any (w : World) (hM : HasMax w) (v : Value) (l : List Slot) (h : RSlots w (· < w.heap.size) v l) :
    Calls Try.prog 43 #[v] w fun e w' => e = .returned (.bool (l.all slotB)) ∧ Below w.heap.size w w' := by
  have HM := Lib.hid hM
  have H := Lib.hid h
  clear hM h
  have hg : ∀ args W, (callFunc 72 args).run Try.prog W = .ok (.enter 72 args) W := fun _ _ => by kernel_rfl
  go_enter Try.func43, Try.ntmps43
  go_wp2_with fail
  refine (containsSlots_any RSlot l (fun x => !slotB x) 72 v w hg (fun cs x hx => by rw [hx.1]; rfl) H.out ?_).mono ?_
  · intro W cs x hb _ hx
    obtain ⟨rfl, ha, hb'⟩ := hx
    exact slots1_any _ _ ha hb' W (HM.out.keep hb)
  rintro e w' ⟨rfl, hb⟩
  have HB := Lib.hid hb
  clear hb
  go_wp2
  go_ret
  refine ⟨ret_bool ?_, HB.out⟩
  rw [List.all_eq_not_any_not]

theorem maySlots_any (w : World) (v : Value) (l : List Slot) (h : RSlots w (· < w.heap.size) v l) :
    Calls Try.prog 52 #[v] w fun e w' => e = .returned (.bool (l.all slotB)) ∧ Below w.heap.size w w' := by
  obtain ⟨a, n, cap, rfl, hn, hcap, hmax, hel⟩ := h
  have H := Lib.hid hel
  have HN := Lib.hid hn
  unfold maxC at hmax
  clear hel hn
  go_enter Try.func52, Try.ntmps52
  go_wp2
  go_loopw [7] (fun v7 w' => ∃ j : Nat, j ≤ n ∧ v7 = .int .i64 j ∧ Hid (l.all slotB = (l.drop j).all slotB) ∧ Hid (Below w.heap.size w w')) (fun v7 _ => n - (intOf v7).toNat)
  case atStart => exact ⟨0, by omega, rfl, rfl, Below.refl _ _⟩
  case round =>
    obtain ⟨j, hj, rfl, HP, HB⟩ := hrel
    by_cases hlt : j < n
    · obtain ⟨x, hx⟩ : ∃ x, l[j]? = some x := ⟨_, List.getElem?_eq_getElem (by rw [HN.out]; exact hlt)⟩
      have HX := Lib.hid hx
      clear hx
      obtain ⟨b, off, cs, rfl, hbl, hc, hr⟩ := H.out j _ HX.out
      obtain ⟨rfl, ht, hn'⟩ := hr
      obtain ⟨c0, c1, -⟩ := cellsAt_of_block (HB.out.block b hbl) hc
      clear hc
      have HD : Hid (l.drop j = x :: l.drop (j + 1)) := drop_of_getElem? HX.out
      have HB1 : ∀ X, Hid (Below w.heap.size w (wr.alloc X)) := fun X => HB.out.alloc HB.out.size X
      cases h1 : isTypeB x.type with
      | false =>
        go_wp2_with (go_at_call 53; refine (refType_any _ ht _).mono ?_; rintro e w' ⟨rfl, rfl⟩)
        go_ret
        exact ⟨ret_bool (by rw [HP.out, HD.out]; simp [slotB, h1]), (HB1 _).out⟩
      | true =>
        cases h2 : isNameB x.name with
        | false =>
          go_wp2_with (first
            | (go_at_call 53; refine (refType_any _ ht _).mono ?_; rintro e w' ⟨rfl, rfl⟩)
            | (go_at_call 51; refine (refIsName_any _ hn' _).mono ?_; rintro e w' ⟨rfl, rfl⟩))
          go_ret
          exact ⟨ret_bool (by rw [HP.out, HD.out]; simp [slotB, h2]), (HB1 _).out⟩
        | true =>
          go_wp2_with (first
            | (go_at_call 53; refine (refType_any _ ht _).mono ?_; rintro e w' ⟨rfl, rfl⟩)
            | (go_at_call 51; refine (refIsName_any _ hn' _).mono ?_; rintro e w' ⟨rfl, rfl⟩))
          refine ⟨⟨j + 1, by omega, by go_num, ?_, HB1 _⟩, by simp [intOf]; omega⟩
          show l.all slotB = (l.drop (j + 1)).all slotB
          rw [HP.out, HD.out]; simp [slotB, h1, h2]
    · obtain rfl : j = n := by omega
      have HE : Hid (l.drop j = []) := List.drop_of_length_le (by rw [HN.out]; exact Nat.le_refl _)
      go_wp2
      go_ret
      exact ⟨ret_bool (by rw [HP.out, HE.out]; rfl), HB.out⟩
end Go.Proofs.Ytjciafpihdbedaa
end
section
/- What show.of knows of an expression's kind. -/
namespace Go.Proofs.Ytjciafpihdbedaa
open Go.RowKit

structure Shape where
  least : Int
  most : Int
  name : Bool
  num : Int
  level : Int
  sign : ByteArray
def Shape.val (s : Shape) : Value := .agg #[.int .i64 s.least, .int .i64 s.most, .bool s.name, .int .i64 s.num, .int .i64 s.level, .string s.sign]

theorem of_1 (w : World) : Calls Try.prog 96 #[.int .i64 1] w fun e w' => e = .returned (.tuple #[Shape.val ⟨0, 0, false, 9223372036854775807, 4, ⟨#[]⟩⟩, .bool true]) ∧ Below w.heap.size w w' := by
  go_enter Try.func96, Try.ntmps96
  go_wp2
  skip
  go_returns
  exact ⟨rfl, by go_grown⟩
theorem of_2 (w : World) : Calls Try.prog 96 #[.int .i64 2] w fun e w' => e = .returned (.tuple #[Shape.val ⟨0, 0, false, 0, 4, ⟨#[]⟩⟩, .bool true]) ∧ Below w.heap.size w w' := by
  go_enter Try.func96, Try.ntmps96
  go_wp2
  skip
  go_returns
  exact ⟨rfl, by go_grown⟩
theorem of_3 (w : World) : Calls Try.prog 96 #[.int .i64 3] w fun e w' => e = .returned (.tuple #[Shape.val ⟨0, 0, false, 0, 4, ⟨#[]⟩⟩, .bool true]) ∧ Below w.heap.size w w' := by
  go_enter Try.func96, Try.ntmps96
  go_wp2
  skip
  go_returns
  exact ⟨rfl, by go_grown⟩
theorem of_4 (w : World) : Calls Try.prog 96 #[.int .i64 4] w fun e w' => e = .returned (.tuple #[Shape.val ⟨0, 0, true, 0, 4, ⟨#[]⟩⟩, .bool true]) ∧ Below w.heap.size w w' := by
  go_enter Try.func96, Try.ntmps96
  go_wp2
  skip
  go_returns
  exact ⟨rfl, by go_grown⟩
theorem of_5 (w : World) : Calls Try.prog 96 #[.int .i64 5] w fun e w' => e = .returned (.tuple #[Shape.val ⟨0, 0, true, 0, 4, ⟨#[]⟩⟩, .bool true]) ∧ Below w.heap.size w w' := by
  go_enter Try.func96, Try.ntmps96
  go_wp2
  skip
  go_returns
  exact ⟨rfl, by go_grown⟩
theorem of_6 (w : World) : Calls Try.prog 96 #[.int .i64 6] w fun e w' => e = .returned (.tuple #[Shape.val ⟨1, 1, false, 0, 4, ⟨#[]⟩⟩, .bool true]) ∧ Below w.heap.size w w' := by
  go_enter Try.func96, Try.ntmps96
  go_wp2
  skip
  go_returns
  exact ⟨rfl, by go_grown⟩
theorem of_7 (w : World) : Calls Try.prog 96 #[.int .i64 7] w fun e w' => e = .returned (.tuple #[Shape.val ⟨1, 1, true, 0, 4, ⟨#[]⟩⟩, .bool true]) ∧ Below w.heap.size w w' := by
  go_enter Try.func96, Try.ntmps96
  go_wp2
  skip
  go_returns
  exact ⟨rfl, by go_grown⟩
theorem of_8 (w : World) : Calls Try.prog 96 #[.int .i64 8] w fun e w' => e = .returned (.tuple #[Shape.val ⟨2, 2, false, 0, 4, ⟨#[]⟩⟩, .bool true]) ∧ Below w.heap.size w w' := by
  go_enter Try.func96, Try.ntmps96
  go_wp2
  skip
  go_returns
  exact ⟨rfl, by go_grown⟩
theorem of_9 (w : World) : Calls Try.prog 96 #[.int .i64 9] w fun e w' => e = .returned (.tuple #[Shape.val ⟨1, 1, false, 0, 4, ⟨#[]⟩⟩, .bool true]) ∧ Below w.heap.size w w' := by
  go_enter Try.func96, Try.ntmps96
  go_wp2
  skip
  go_returns
  exact ⟨rfl, by go_grown⟩
theorem of_10 (w : World) : Calls Try.prog 96 #[.int .i64 10] w fun e w' => e = .returned (.tuple #[Shape.val ⟨1, 5, true, 0, 4, ⟨#[]⟩⟩, .bool true]) ∧ Below w.heap.size w w' := by
  go_enter Try.func96, Try.ntmps96
  go_wp2
  skip
  go_returns
  exact ⟨rfl, by go_grown⟩
theorem of_11 (w : World) : Calls Try.prog 96 #[.int .i64 11] w fun e w' => e = .returned (.tuple #[Shape.val ⟨0, 0, false, 99, 4, ⟨#[]⟩⟩, .bool true]) ∧ Below w.heap.size w w' := by
  go_enter Try.func96, Try.ntmps96
  go_wp2
  skip
  go_returns
  exact ⟨rfl, by go_grown⟩
theorem of_12 (w : World) : Calls Try.prog 96 #[.int .i64 12] w fun e w' => e = .returned (.tuple #[Shape.val ⟨1, 1, false, 0, 4, ⟨#[]⟩⟩, .bool true]) ∧ Below w.heap.size w w' := by
  go_enter Try.func96, Try.ntmps96
  go_wp2
  skip
  go_returns
  exact ⟨rfl, by go_grown⟩
theorem of_13 (w : World) : Calls Try.prog 96 #[.int .i64 13] w fun e w' => e = .returned (.tuple #[Shape.val ⟨2, 2, false, 0, 2, ⟨#[32, 43, 32]⟩⟩, .bool true]) ∧ Below w.heap.size w w' := by
  go_enter Try.func96, Try.ntmps96
  go_wp2
  (go_region; go_wp2)
  go_returns
  exact ⟨rfl, by go_grown⟩
theorem of_14 (w : World) : Calls Try.prog 96 #[.int .i64 14] w fun e w' => e = .returned (.tuple #[Shape.val ⟨2, 2, false, 0, 2, ⟨#[32, 45, 32]⟩⟩, .bool true]) ∧ Below w.heap.size w w' := by
  go_enter Try.func96, Try.ntmps96
  go_wp2
  (go_region; go_wp2)
  go_returns
  exact ⟨rfl, by go_grown⟩
theorem of_15 (w : World) : Calls Try.prog 96 #[.int .i64 15] w fun e w' => e = .returned (.tuple #[Shape.val ⟨2, 2, false, 0, 3, ⟨#[32, 42, 32]⟩⟩, .bool true]) ∧ Below w.heap.size w w' := by
  go_enter Try.func96, Try.ntmps96
  go_wp2
  (go_region; go_wp2)
  go_returns
  exact ⟨rfl, by go_grown⟩
theorem of_16 (w : World) : Calls Try.prog 96 #[.int .i64 16] w fun e w' => e = .returned (.tuple #[Shape.val ⟨2, 2, false, 0, 3, ⟨#[32, 47, 32]⟩⟩, .bool true]) ∧ Below w.heap.size w w' := by
  go_enter Try.func96, Try.ntmps96
  go_wp2
  (go_region; go_wp2)
  go_returns
  exact ⟨rfl, by go_grown⟩
theorem of_17 (w : World) : Calls Try.prog 96 #[.int .i64 17] w fun e w' => e = .returned (.tuple #[Shape.val ⟨2, 2, false, 0, 1, ⟨#[32, 60, 32]⟩⟩, .bool true]) ∧ Below w.heap.size w w' := by
  go_enter Try.func96, Try.ntmps96
  go_wp2
  (go_region; go_wp2)
  go_returns
  exact ⟨rfl, by go_grown⟩
theorem of_18 (w : World) : Calls Try.prog 96 #[.int .i64 18] w fun e w' => e = .returned (.tuple #[Shape.val ⟨2, 2, false, 0, 1, ⟨#[32, 61, 61, 32]⟩⟩, .bool true]) ∧ Below w.heap.size w w' := by
  go_enter Try.func96, Try.ntmps96
  go_wp2
  (go_region; go_wp2)
  go_returns
  exact ⟨rfl, by go_grown⟩
def shapes : List Shape := [
  ⟨0, 0, false, 9223372036854775807, 4, ⟨#[]⟩⟩,
  ⟨0, 0, false, 0, 4, ⟨#[]⟩⟩,
  ⟨0, 0, false, 0, 4, ⟨#[]⟩⟩,
  ⟨0, 0, true, 0, 4, ⟨#[]⟩⟩,
  ⟨0, 0, true, 0, 4, ⟨#[]⟩⟩,
  ⟨1, 1, false, 0, 4, ⟨#[]⟩⟩,
  ⟨1, 1, true, 0, 4, ⟨#[]⟩⟩,
  ⟨2, 2, false, 0, 4, ⟨#[]⟩⟩,
  ⟨1, 1, false, 0, 4, ⟨#[]⟩⟩,
  ⟨1, 5, true, 0, 4, ⟨#[]⟩⟩,
  ⟨0, 0, false, 99, 4, ⟨#[]⟩⟩,
  ⟨1, 1, false, 0, 4, ⟨#[]⟩⟩,
  ⟨2, 2, false, 0, 2, ⟨#[32, 43, 32]⟩⟩,
  ⟨2, 2, false, 0, 2, ⟨#[32, 45, 32]⟩⟩,
  ⟨2, 2, false, 0, 3, ⟨#[32, 42, 32]⟩⟩,
  ⟨2, 2, false, 0, 3, ⟨#[32, 47, 32]⟩⟩,
  ⟨2, 2, false, 0, 1, ⟨#[32, 60, 32]⟩⟩,
  ⟨2, 2, false, 0, 1, ⟨#[32, 61, 61, 32]⟩⟩]
def noShape : Shape := ⟨0, 0, false, 0, 4, ⟨#[]⟩⟩
/-- An expression's shape by its kind; false: there is no such kind. -/
def shapeOf (k : Int) : Shape × Bool := if 1 ≤ k ∧ k ≤ 18 then (shapes.getD (k - 1).toNat noShape, true) else (noShape, false)

theorem of_none (k : Int) (hk : ¬ (1 ≤ k ∧ k ≤ 18)) (w : World) : Calls Try.prog 96 #[.int .i64 k] w fun e w' => e = .returned (.tuple #[Shape.val noShape, .bool false]) ∧ Below w.heap.size w w' := by
  have h1 : (k == 1) = false := by simp; omega
  have h2 : (k == 2) = false := by simp; omega
  have h3 : (k == 3) = false := by simp; omega
  have h4 : (k == 4) = false := by simp; omega
  have h5 : (k == 5) = false := by simp; omega
  have h6 : (k == 6) = false := by simp; omega
  have h7 : (k == 7) = false := by simp; omega
  have h8 : (k == 8) = false := by simp; omega
  have h9 : (k == 9) = false := by simp; omega
  have h10 : (k == 10) = false := by simp; omega
  have h11 : (k == 11) = false := by simp; omega
  have h12 : (k == 12) = false := by simp; omega
  have h13 : (k == 13) = false := by simp; omega
  have h14 : (k == 14) = false := by simp; omega
  have h15 : (k == 15) = false := by simp; omega
  have h16 : (k == 16) = false := by simp; omega
  have h17 : (k == 17) = false := by simp; omega
  have h18 : (k == 18) = false := by simp; omega
  clear hk
  go_enter Try.func96, Try.ntmps96
  go_wp2
  go_returns
  exact ⟨rfl, by go_grown⟩

theorem of_any (k : Int) (w : World) : Calls Try.prog 96 #[.int .i64 k] w fun e w' => e = .returned (.tuple #[Shape.val (shapeOf k).1, .bool (shapeOf k).2]) ∧ Below w.heap.size w w' := by
  by_cases hk : 1 ≤ k ∧ k ≤ 18
  · have hcase : k = 1 ∨ k = 2 ∨ k = 3 ∨ k = 4 ∨ k = 5 ∨ k = 6 ∨ k = 7 ∨ k = 8 ∨ k = 9 ∨ k = 10 ∨ k = 11 ∨ k = 12 ∨ k = 13 ∨ k = 14 ∨ k = 15 ∨ k = 16 ∨ k = 17 ∨ k = 18 := by omega
    rcases hcase with rfl | rfl | rfl | rfl | rfl | rfl | rfl | rfl | rfl | rfl | rfl | rfl | rfl | rfl | rfl | rfl | rfl | rfl
    · exact of_1 w
    · exact of_2 w
    · exact of_3 w
    · exact of_4 w
    · exact of_5 w
    · exact of_6 w
    · exact of_7 w
    · exact of_8 w
    · exact of_9 w
    · exact of_10 w
    · exact of_11 w
    · exact of_12 w
    · exact of_13 w
    · exact of_14 w
    · exact of_15 w
    · exact of_16 w
    · exact of_17 w
    · exact of_18 w
  · have h : shapeOf k = (noShape, false) := by unfold shapeOf; rw [if_neg hk]
    rw [h]
    exact of_none k hk w
end Go.Proofs.Ytjciafpihdbedaa
end
section
/- Which expressions may be: show.expr and the reference's MayExpr. -/
namespace Go.Proofs.Ytjciafpihdbedaa
open Go.RowKit

/-- What is asked of one expression, its kids aside. -/
def exprTop (x : Expr) : Bool :=
  (shapeOf x.kind).2 && decide ((shapeOf x.kind).1.least ≤ x.kids.length) && decide ((x.kids.length : Int) ≤ (shapeOf x.kind).1.most) && decide (0 ≤ x.num) && decide (x.num ≤ (shapeOf x.kind).1.num) &&
    (if (shapeOf x.kind).1.name then isNameB x.name else x.name.data.toList.isEmpty)
mutual
def exprB : Expr → Bool | ⟨k, n, nm, kids⟩ => exprTop ⟨k, n, nm, kids⟩ && exprsB kids
def exprsB : List Expr → Bool | [] => true | x :: r => exprB x && exprsB r
end
theorem exprsB_all : ∀ l : List Expr, exprsB l = l.all exprB
  | [] => rfl
  | x :: r => by simp [exprsB, exprsB_all r]
theorem exprB_eq (x : Expr) : exprB x = (exprTop x && x.kids.all exprB) := by
  cases x; simp [exprB, exprsB_all]

theorem exprTop_eq (x : Expr) : exprTop x = ((shapeOf x.kind).2 && decide ((shapeOf x.kind).1.least ≤ x.kids.length) && decide ((x.kids.length : Int) ≤ (shapeOf x.kind).1.most) && decide (0 ≤ x.num) && decide (x.num ≤ (shapeOf x.kind).1.num) &&
    (if (shapeOf x.kind).1.name then isNameB x.name else x.name.data.toList.isEmpty)) := rfl

theorem expr1_any (w : World) (k n : Int) (s : ByteArray) (a : Option Addr) (m cap : Nat) (p : Bool) (h : ∀ W, Below w.heap.size w W → Calls Try.prog 88 #[.agg #[.int .i64 k, .int .i64 n, .string s, .slice a m cap]] W fun e w' => e = .returned (.bool p) ∧ Below W.heap.size W w') :
    Calls Try.prog 97 #[.agg #[.int .i64 k, .int .i64 n, .string s, .slice a m cap]] w fun e w' => e = .returned (.bool (!p)) ∧ Below w.heap.size w w' := by
  have H := Lib.hid h
  clear h
  go_enter Try.func97, Try.ntmps97
  go_wp2_with fail
  refine (H.out _ (by go_grown)).mono ?_
  rintro e w' ⟨rfl, hb⟩
  have HB : Hid (Below w.heap.size w w') := afterCall (by go_grown) hb
  clear hb
  go_wp2
  go_ret
  exact ⟨rfl, HB.out⟩

theorem expr_any (d : Nat) : ∀ (w : World) (cs : List Value) (x : Expr), HasMax w → RExpr d w (· < w.heap.size) cs x →
    Calls Try.prog 88 #[.agg cs.toArray] w fun e w' => e = .returned (.bool (exprB x)) ∧ Below w.heap.size w w' := by
  induction d using Nat.strongRecOn with
  | ind d ih =>
    intro w cs x hM hx
    obtain ⟨d', a', n', cap', hd, rfl, wk, wn, ws, hk⟩ := hx.inv
    have HM := Lib.hid hM
    have HK := Lib.hid hk
    have IH := Lib.hid ih
    have HT := Lib.hid (exprB_eq x)
    have HTT := Lib.hid (exprTop_eq x)
    obtain ⟨_, _, _, heq, hlen, _, hmx, _⟩ := HK.out
    cases heq
    unfold maxC at hmx
    have hg : ∀ args W, (callFunc 97 args).run Try.prog W = .ok (.enter 97 args) W := fun _ _ => by kernel_rfl
    have HG := Lib.hid hg
    have HL := Lib.hid hlen
    clear hM hk ih hx hg hlen
    go_enter Try.func88, Try.ntmps88
    go_wp2_with fail
    refine (of_any _ _).mono ?_
    rintro e w1 ⟨rfl, hb1⟩
    have HB1 : Hid (Below w.heap.size w w1) := afterCall (by go_grown) hb1
    have k0 : w1.cell? ⟨w.heap.size, 0, none⟩ = some (.int .i64 x.kind) := (hb1.cell (by simp)).trans (by simp)
    have k1 : w1.cell? ⟨w.heap.size, 1, none⟩ = some (.int .i64 x.num) := (hb1.cell (by simp)).trans (by simp)
    have k2 : w1.cell? ⟨w.heap.size, 2, none⟩ = some (.string x.name) := (hb1.cell (by simp)).trans (by simp)
    have k3 : w1.cell? ⟨w.heap.size, 3, none⟩ = some (.slice a' n' cap') := (hb1.cell (by simp)).trans (by simp)
    have hsz : w.heap.size < w1.heap.size := cell_lt k0
    clear hb1
    generalize shapeOf x.kind = so at *
    obtain ⟨⟨s0, s1, s2, s3, s4, s5⟩, ok⟩ := so
    simp only [Shape.val]
    go_wp2_with (first
      | (go_at_call 42; refine (name_in (HM.out.keep (HB1.out.alloc HB1.out.size _)) _ ws).mono ?_; rintro e w' ⟨rfl, rfl⟩))
    all_goals first
      | (go_ret
         refine ⟨ret_bool ?_, HB1.out.alloc HB1.out.size _⟩
         rw [HT.out, HTT.out, HL.out]
         simp [*]
         done)
      | (go_ret
         refine ⟨ret_bool ?_, HB1.out.alloc HB1.out.size _⟩
         rw [HT.out, HTT.out, HL.out]
         try (have hz := ‹(!x.name.toList.isEmpty) = true›; simp at hz)
         simp [*, ← Lib.toList_data]
         done)
      | (go_ret
         refine ⟨ret_bool ?_, HB1.out.alloc HB1.out.size _⟩
         rw [HT.out, HTT.out, HL.out]
         try (have hz := ‹(!x.name.toList.isEmpty) = true›; simp at hz)
         simp [*, ← Lib.toList_data]
         omega)
      | (have HTOP : Hid (exprTop x = true) := by
           show exprTop x = true
           rw [HTT.out, HL.out]
           try (have hz := ‹(!x.name.toList.isEmpty) = false›; simp at hz)
           simp [*, ← Lib.toList_data]
           try omega
         clear HTT
         have HB2 : Hid (∀ X, Below w.heap.size w (w1.alloc X)) := fun X => HB1.out.alloc HB1.out.size X
         refine (containsExprs_any (RExpr d' (w1.alloc _) (· < (w1.alloc _).heap.size)) x.kids (fun x => !exprB x) 97 _ _ HG.out ?_ (HK.out.mono (fun k hk => ?_) (fun k hk => ?_)) ?_).mono ?_
         · intro cs y hy; obtain ⟨_, _, _, _, _, rfl, _⟩ := hy.inv; rfl
         · exact Nat.lt_of_lt_of_le hk (HB2.out _).size
         · exact (HB2.out _).block k hk
         · intro W cs y hb hy hr
           obtain ⟨_, _, _, _, _, rfl, _⟩ := hr.inv
           refine expr1_any W _ _ _ _ _ _ _ (fun W' hb' => ?_)
           have hb2 : Below (w1.alloc _).heap.size (w1.alloc _) W' := hb.trans (hb'.mono hb.size)
           exact IH.out d' hd W' _ y ((HM.out.keep (HB2.out _)).keep hb2) (hr.mono (fun k hk => Nat.lt_of_lt_of_le hk hb2.size) (fun k hk => hb2.block k hk))
         rintro e w2 ⟨rfl, hb2⟩
         have HB3 : Hid (Below w.heap.size w w2) := afterCall (HB2.out _) hb2
         clear hb2
         go_wp2
         go_ret
         refine ⟨ret_bool ?_, HB3.out⟩
         rw [HT.out, HTOP.out, List.all_eq_not_any_not]
         simp)
end Go.Proofs.Ytjciafpihdbedaa
end
section
/- Which statements may be: show.stmt. -/
namespace Go.Proofs.Ytjciafpihdbedaa
open Go.RowKit

def exprsOf (k : Int) : Int × Int := if k = 1 then (0, 1) else if k = 2 then (2, 2) else if 3 ≤ k ∧ k ≤ 7 then (1, 1) else (-1, -1)
def stmtTop (x : Stmt) : Bool :=
  decide (0 ≤ (exprsOf x.kind).1) && decide ((exprsOf x.kind).1 ≤ x.exprs.length) && decide ((x.exprs.length : Int) ≤ (exprsOf x.kind).2) &&
  (if x.kind = 1 then isTypeB x.type && isNameB x.name else x.type.toList.isEmpty && x.name.toList.isEmpty) &&
  (if x.kind = 5 then decide (0 ≤ x.num) && decide (x.num ≤ 99) else x.num == 0) &&
  (x.kind == 3 || x.kind == 4 || x.thn.isEmpty) && (x.kind == 3 || x.els.isEmpty)
def isPlace (k : Int) : Bool := k == 4 || k == 7 || k == 8
def firstB (x : Stmt) : Bool := match x.exprs with
  | [] => true
  | e :: _ => if x.kind = 2 then isPlace e.kind else if x.kind = 7 then e.kind == 10 else true
mutual
def stmtB : Stmt → Bool | ⟨k, n, t, nm, es, th, el⟩ => stmtTop ⟨k, n, t, nm, es, th, el⟩ && es.all exprB && firstB ⟨k, n, t, nm, es, th, el⟩ && stmtsB th && stmtsB el
def stmtsB : List Stmt → Bool | [] => true | x :: r => stmtB x && stmtsB r
end
theorem stmtsB_all : ∀ l : List Stmt, stmtsB l = l.all stmtB
  | [] => rfl
  | x :: r => by simp [stmtsB, stmtsB_all r]
theorem stmtB_eq (x : Stmt) : stmtB x = (stmtTop x && x.exprs.all exprB && firstB x && x.thn.all stmtB && x.els.all stmtB) := by
  cases x; simp [stmtB, stmtsB_all]

theorem stmt1_any (k : Int) (w : World) : Calls Try.prog 83 #[.int .i64 k] w fun e w' => e = .returned (.bool (true)) ∧ w = w' := by
  go_enter Try.func83, Try.ntmps83
  go_wp2
  all_goals go_ret
  all_goals refine ⟨ret_bool ?_, rfl⟩
  all_goals simp_all
theorem stmt2_any (k : Int) (w : World) : Calls Try.prog 84 #[.int .i64 k] w fun e w' => e = .returned (.bool (isPlace k)) ∧ w = w' := by
  go_enter Try.func84, Try.ntmps84
  go_wp2
  all_goals go_ret
  all_goals refine ⟨ret_bool ?_, rfl⟩
  all_goals simp_all [isPlace]
theorem stmt3_any (k : Int) (w : World) : Calls Try.prog 85 #[.int .i64 k] w fun e w' => e = .returned (.bool (k == 10)) ∧ w = w' := by
  go_enter Try.func85, Try.ntmps85
  go_wp2
  all_goals go_ret
  all_goals refine ⟨ret_bool ?_, rfl⟩
  all_goals simp_all

/-- The closure: is this expression none that may be? -/
theorem stmt4_any (d : Nat) (w : World) (hM : HasMax w) (cs : List Value) (x : Expr) (hx : RExpr d w (· < w.heap.size) cs x) :
    Calls Try.prog 87 #[.agg cs.toArray] w fun e w' => e = .returned (.bool (!exprB x)) ∧ Below w.heap.size w w' := by
  have HR := Lib.hid hx
  have HM := Lib.hid hM
  obtain ⟨d', a', n', cap', hd, rfl, -⟩ := hx.inv
  clear hx hM
  go_enter Try.func87, Try.ntmps87
  go_wp2_with fail
  (with_reducible refine (expr_any d _ [_, _, _, _] x (HM.out.keep ?_) (HR.out.mono ?_ ?_)).mono ?_)
  · go_grown
  · exact fun k hk => by simp; omega
  · exact fun k hk => Below.heap_alloc _ _ _ hk
  rintro e w' ⟨rfl, hb⟩
  have HB : Hid (Below w.heap.size w w') := afterCall (by go_grown) hb
  clear hb
  go_wp2
  go_ret
  exact ⟨rfl, HB.out⟩

theorem stmts1_any (w : World) (k n : Int) (t s : ByteArray) (a a' a'' : Option Addr) (m m' m'' cap cap' cap'' : Nat) (p : Bool)
    (h : ∀ W, Below w.heap.size w W → Calls Try.prog 66 #[.agg #[.int .i64 k, .int .i64 n, .string t, .string s, .slice a m cap, .slice a' m' cap', .slice a'' m'' cap'']] W fun e w' => e = .returned (.bool p) ∧ Below W.heap.size W w') :
    Calls Try.prog 65 #[.agg #[.int .i64 k, .int .i64 n, .string t, .string s, .slice a m cap, .slice a' m' cap', .slice a'' m'' cap'']] w fun e w' => e = .returned (.bool (!p)) ∧ Below w.heap.size w w' := by
  have H := Lib.hid h
  clear h
  go_enter Try.func65, Try.ntmps65
  go_wp2_with fail
  refine (H.out _ (by go_grown)).mono ?_
  rintro e w' ⟨rfl, hb⟩
  have HB : Hid (Below w.heap.size w w') := afterCall (by go_grown) hb
  clear hb
  go_wp2
  go_ret
  exact ⟨rfl, HB.out⟩

theorem stmts_of (d : Nat) (hS : ∀ (w : World) (cs : List Value) (x : Stmt), HasMax w → RStmt d w (· < w.heap.size) cs x → Calls Try.prog 66 #[.agg cs.toArray] w fun e w' => e = .returned (.bool (stmtB x)) ∧ Below w.heap.size w w')
    (w : World) (v : Value) (l : List Stmt) (hM : HasMax w) (h : RStmts d w (· < w.heap.size) v l) :
    Calls Try.prog 41 #[v] w fun e w' => e = .returned (.bool (l.all stmtB)) ∧ Below w.heap.size w w' := by
  have HM := Lib.hid hM
  have H := Lib.hid h
  have HS := Lib.hid hS
  clear hM h hS
  have hg : ∀ args W, (callFunc 65 args).run Try.prog W = .ok (.enter 65 args) W := fun _ _ => by kernel_rfl
  go_enter Try.func41, Try.ntmps41
  go_wp2_with fail
  refine (containsStmts_any (RStmt d w (· < w.heap.size)) l (fun x => !stmtB x) 65 v w hg (fun cs x hx => by obtain ⟨_, _, _, _, _, _, _, _, _, _, _, rfl, _⟩ := hx.inv; rfl) H.out ?_).mono ?_
  · intro W cs x hb _ hx
    obtain ⟨_, _, _, _, _, _, _, _, _, _, _, rfl, _⟩ := hx.inv
    refine stmts1_any W _ _ _ _ _ _ _ _ _ _ _ _ _ _ (fun W' hb' => ?_)
    have hb2 : Below w.heap.size w W' := hb.trans (hb'.mono hb.size)
    exact HS.out W' _ x (HM.out.keep hb2) (hx.mono (fun k hk => Nat.lt_of_lt_of_le hk hb2.size) (fun k hk => hb2.block k hk))
  rintro e w' ⟨rfl, hb⟩
  have HB := Lib.hid hb
  clear hb
  go_wp2
  go_ret
  refine ⟨ret_bool ?_, HB.out⟩
  rw [List.all_eq_not_any_not]

theorem first_of {x : Stmt} {e : Expr} (h : x.exprs[0]? = some e) : firstB x = if x.kind = 2 then isPlace e.kind else if x.kind = 7 then e.kind == 10 else true := by
  cases hx : x.exprs with
  | nil => rw [hx] at h; simp at h
  | cons a r => rw [hx] at h; simp at h; subst h; unfold firstB; rw [hx]

set_option maxHeartbeats 2000000 in
theorem stmt_any (d : Nat) : ∀ (w : World) (cs : List Value) (x : Stmt), HasMax w → RStmt d w (· < w.heap.size) cs x →
    Calls Try.prog 66 #[.agg cs.toArray] w fun e w' => e = .returned (.bool (stmtB x)) ∧ Below w.heap.size w w' := by
  induction d using Nat.strongRecOn with
  | ind d ih =>
    intro w cs x hM hx
    obtain ⟨d', a1, n1, cap1, a2, n2, cap2, a3, n3, cap3, hd, rfl, wk, wn, wt, ws, h4, h5, h6⟩ := hx.inv
    have HM := Lib.hid hM
    have IH := Lib.hid (stmts_of d' (ih d' hd))
    have HT := Lib.hid (stmtB_eq x)
    have HE := Lib.hid h4
    have H5 := Lib.hid h5
    have H6 := Lib.hid h6
    obtain ⟨_, _, _, heq, hl1, _, hm1, hel⟩ := h4
    cases heq
    obtain ⟨_, _, _, heq, hl2, _, hm2, _⟩ := h5
    cases heq
    obtain ⟨_, _, _, heq, hl3, _, hm3, _⟩ := h6
    cases heq
    unfold maxC at hm1 hm2 hm3
    have HEL := Lib.hid hel
    have HL1 := Lib.hid hl1
    have HL2 := Lib.hid hl2
    have HL3 := Lib.hid hl3
    have hg : ∀ args W, (callFunc 87 args).run Try.prog W = .ok (.enter 87 args) W := fun _ _ => by kernel_rfl
    have HG := Lib.hid hg
    clear ih hx hl1 hl2 hl3 hel wk wn hM hg
    by_cases k1 : x.kind = 1
    · have t1 : (x.kind == 1) = true := by simp [k1]
      have t1' : (x.kind != 1) = false := by simp [k1]
      have HC : Hid (stmtTop x = (decide (n1 ≤ 1) && slotB ⟨x.type, x.name⟩ && (x.num == 0) && (n2 == 0) && (n3 == 0))) := by
        show stmtTop x = _
        have e2 : x.thn.isEmpty = (n2 == 0) := by rw [← HL2.out]; cases x.thn <;> simp
        have e3 : x.els.isEmpty = (n3 == 0) := by rw [← HL3.out]; cases x.els <;> simp
        simp [stmtTop, exprsOf, k1, HL1.out, e2, e3, slotB]
        rw [Bool.eq_iff_iff]; simp; omega
      have HK : Hid (x.kind = 1) := k1
      clear k1
      go_enter Try.func66, Try.ntmps66
      go_wp2_with (first
        | (go_at_call 44; refine (slot_any _ _ wt ws _ (HM.out.keep (by go_grown))).mono ?_; rintro e w1 ⟨rfl, hb1⟩
           have HB1 : Hid (Below w.heap.size w w1) := afterCall (by go_grown) hb1
           have q1 : w1.cell? ⟨w.heap.size, 1, none⟩ = some (.int .i64 x.num) := (hb1.cell (by simp)).trans (by simp)
           have q4 : w1.cell? ⟨w.heap.size, 4, none⟩ = some (.slice a1 n1 cap1) := (hb1.cell (by simp)).trans (by simp)
           have q0 : w1.cell? ⟨w.heap.size, 0, none⟩ = some (.int .i64 x.kind) := (hb1.cell (by simp)).trans (by simp)
           have q5 : w1.cell? ⟨w.heap.size, 5, none⟩ = some (.slice a2 n2 cap2) := (hb1.cell (by simp)).trans (by simp)
           have q6 : w1.cell? ⟨w.heap.size, 6, none⟩ = some (.slice a3 n3 cap3) := (hb1.cell (by simp)).trans (by simp)
           clear hb1))
      all_goals first
        | (go_ret
           refine ⟨ret_bool ?_, by first | exact HB1.out | go_grown⟩
           rw [HT.out, HC.out]
           clear HT HC HEL HE H5 H6 IH HG HL1 HL2 HL3
           simp_all
           first | done | (intros; omega) | (intros; simp_all; done))
        | (have HTOP : Hid (stmtTop x = true) := by
             show stmtTop x = true
             rw [HC.out]
             clear HT HC HEL HE H5 H6 IH HG HL1 HL2 HL3
             simp_all
             first | done | (intros; omega) | (intros; simp_all; done)
           have hn1 : n1 = 0 ∨ n1 = 1 := by
             have : (↑n1 != min (↑n1 : Int) 1) = false := by assumption
             simp at this
             omega
           obtain ⟨wc, hwc⟩ : ∃ wc, wc = w1 := ⟨_, rfl⟩
           subst hwc
           have HBC := HB1
           rcases hn1 with rfl | rfl
           ·
             have Q0 := Lib.hid q0
             clear q0
             refine (containsExprs_any (RExpr d' wc (· < wc.heap.size)) x.exprs (fun x => !exprB x) 87 _ wc HG.out ?_ (HE.out.mono (fun k hk => Nat.lt_of_lt_of_le hk HBC.out.size) (fun k hk => HBC.out.block k hk)) ?_).mono ?_
             · intro cs y hy; obtain ⟨_, _, _, _, _, rfl, _⟩ := hy.inv; rfl
             · intro W cs y hb hy hr
               exact stmt4_any d' W ((HM.out.keep HBC.out).keep hb) cs y (hr.mono (fun k hk => Nat.lt_of_lt_of_le hk hb.size) (fun k hk => hb.block k hk))
             rintro e w2 ⟨rfl, hb2⟩
             have HB2 : Hid (Below w.heap.size w w2) := afterCall HBC.out hb2
             have r4 := next (o := 4) hb2 q4
             have r5 := next (o := 5) hb2 q5
             have r6 := next (o := 6) hb2 q6
             clear hb2 q4 q5 q6
             have HX : Hid (x.exprs.all exprB = !(x.exprs.any fun x => !exprB x)) := by show _ = _; rw [List.all_eq_not_any_not]
             cases hany : x.exprs.any fun x => !exprB x with
             | true =>
               have HR : Hid (stmtB x = false) := by show stmtB x = false; rw [HT.out, HX.out, hany]; simp
               go_wp2
               go_ret
               exact ⟨ret_bool HR.out.symm, HB2.out⟩
             | false =>
               have HX2 : Hid (x.exprs.all exprB = true) := by show _ = _; rw [HX.out, hany]; rfl
               have HF : Hid (firstB x = true) := by
                 have : x.exprs = [] := List.length_eq_zero_iff.1 HL1.out
                 show firstB x = true
                 unfold firstB; rw [this]
               go_wp2_with fail
               all_goals first
                 | (go_ret
                    refine ⟨ret_bool ?_, HB2.out⟩
                    rw [HT.out, HF.out]
                    simp only [*]
                    simp
                    done)
                 | (go_ret
                    refine ⟨ret_bool ?_, HB2.out⟩
                    rw [HT.out, HF.out]
                    clear HT HX HX2 HEL HE H5 H6 IH HG HL1 HL2 HL3
                    simp_all
                    done)
                 | (have HF2 : Hid (firstB x = true) := by
                      show firstB x = true
                      rw [HF.out]
                      all_goals (clear HT HX HX2 HEL HE H5 H6 IH HG HL1 HL2 HL3; simp_all)
                    refine (IH.out w2 _ x.thn (HM.out.keep HB2.out) (H5.out.mono (fun k hk => Nat.lt_of_lt_of_le hk HB2.out.size) (fun k hk => HB2.out.block k hk))).mono ?_
                    rintro e w3 ⟨rfl, hb3⟩
                    have HB3 := nextB hb3 HB2
                    have s6 := next (o := 6) hb3 r6
                    clear hb3 r4 r5 r6
                    cases hth : x.thn.all stmtB with
                    | false =>
                      go_wp2
                      go_ret
                      exact ⟨ret_bool (by rw [HT.out, hth]; simp), HB3.out⟩
                    | true =>
                      go_wp2_with fail
                      refine (IH.out w3 _ x.els (HM.out.keep HB3.out) (H6.out.mono (fun k hk => Nat.lt_of_lt_of_le hk HB3.out.size) (fun k hk => HB3.out.block k hk))).mono ?_
                      rintro e w4 ⟨rfl, hb4⟩
                      have HB4 := nextB hb4 HB3
                      clear hb4
                      go_wp2
                      go_ret
                      exact ⟨ret_bool (by rw [HT.out, HTOP.out, HX2.out, HF2.out, hth]; simp), HB4.out⟩)
           ·
             have Q0 := Lib.hid q0
             clear q0
             refine (containsExprs_any (RExpr d' wc (· < wc.heap.size)) x.exprs (fun x => !exprB x) 87 _ wc HG.out ?_ (HE.out.mono (fun k hk => Nat.lt_of_lt_of_le hk HBC.out.size) (fun k hk => HBC.out.block k hk)) ?_).mono ?_
             · intro cs y hy; obtain ⟨_, _, _, _, _, rfl, _⟩ := hy.inv; rfl
             · intro W cs y hb hy hr
               exact stmt4_any d' W ((HM.out.keep HBC.out).keep hb) cs y (hr.mono (fun k hk => Nat.lt_of_lt_of_le hk hb.size) (fun k hk => hb.block k hk))
             rintro e w2 ⟨rfl, hb2⟩
             have HB2 : Hid (Below w.heap.size w w2) := afterCall HBC.out hb2
             have r4 := next (o := 4) hb2 q4
             have r5 := next (o := 5) hb2 q5
             have r6 := next (o := 6) hb2 q6
             clear hb2 q4 q5 q6
             have HX : Hid (x.exprs.all exprB = !(x.exprs.any fun x => !exprB x)) := by show _ = _; rw [List.all_eq_not_any_not]
             cases hany : x.exprs.any fun x => !exprB x with
             | true =>
               have HR : Hid (stmtB x = false) := by show stmtB x = false; rw [HT.out, HX.out, hany]; simp
               go_wp2
               go_ret
               exact ⟨ret_bool HR.out.symm, HB2.out⟩
             | false =>
               have HX2 : Hid (x.exprs.all exprB = true) := by show _ = _; rw [HX.out, hany]; rfl
               obtain ⟨y, hy⟩ : ∃ y, x.exprs[0]? = some y := ⟨_, List.getElem?_eq_getElem (by rw [HL1.out]; omega)⟩
               have HF : Hid (firstB x = true) := by show firstB x = _; rw [first_of hy]; simp [HK.out]
               obtain ⟨b, off, cs, rfl, hbl, hc, hr⟩ := HEL.out 0 _ hy
               obtain ⟨_, _, _, _, _, rfl, -⟩ := hr.inv
               obtain ⟨c0, -⟩ := cellsAt_of_block (HB2.out.block b hbl) hc
               have c0' : w2.cell? ⟨b, off, none⟩ = some (.int .i64 y.kind) := by simpa using c0
               clear c0 hc hr hy
               go_wp2_with (go_at_call 83; refine (stmt1_any _ _).mono ?_; rintro e w' ⟨rfl, rfl⟩)
               all_goals first
                 | (go_ret
                    refine ⟨ret_bool ?_, HB2.out⟩
                    rw [HT.out, HF.out]
                    simp only [*]
                    simp
                    done)
                 | (go_ret
                    refine ⟨ret_bool ?_, HB2.out⟩
                    rw [HT.out, HF.out]
                    clear HT HX HX2 HEL HE H5 H6 IH HG HL1 HL2 HL3
                    simp_all
                    done)
                 | (have HF2 : Hid (firstB x = true) := by
                      show firstB x = true
                      rw [HF.out]
                      all_goals (clear HT HX HX2 HEL HE H5 H6 IH HG HL1 HL2 HL3; simp_all)
                    refine (IH.out w2 _ x.thn (HM.out.keep HB2.out) (H5.out.mono (fun k hk => Nat.lt_of_lt_of_le hk HB2.out.size) (fun k hk => HB2.out.block k hk))).mono ?_
                    rintro e w3 ⟨rfl, hb3⟩
                    have HB3 := nextB hb3 HB2
                    have s6 := next (o := 6) hb3 r6
                    clear hb3 r4 r5 r6
                    cases hth : x.thn.all stmtB with
                    | false =>
                      go_wp2
                      go_ret
                      exact ⟨ret_bool (by rw [HT.out, hth]; simp), HB3.out⟩
                    | true =>
                      go_wp2_with fail
                      refine (IH.out w3 _ x.els (HM.out.keep HB3.out) (H6.out.mono (fun k hk => Nat.lt_of_lt_of_le hk HB3.out.size) (fun k hk => HB3.out.block k hk))).mono ?_
                      rintro e w4 ⟨rfl, hb4⟩
                      have HB4 := nextB hb4 HB3
                      clear hb4
                      go_wp2
                      go_ret
                      exact ⟨ret_bool (by rw [HT.out, HTOP.out, HX2.out, HF2.out, hth]; simp), HB4.out⟩))
    have t1 : (x.kind == 1) = false := by simp [k1]
    have hcat : x.type.size + x.name.size ≤ 9223372036854775807 := by unfold maxS at wt ws; omega
    have hcat2 : (x.type ++ x.name).toList.isEmpty = (x.type.toList.isEmpty && x.name.toList.isEmpty) := by
      simp only [Lib.toList_data]; rw [Bool.eq_iff_iff]; simp
    by_cases k2 : x.kind = 2
    · have HC : Hid (stmtTop x = (decide ((2 : Int) ≤ n1) && decide ((n1 : Int) ≤ 2) && (x.type.toList.isEmpty && x.name.toList.isEmpty) && x.num == 0 && n2 == 0 && n3 == 0)) := by
        show stmtTop x = _
        have e2 : x.thn.isEmpty = (n2 == 0) := by rw [← HL2.out]; cases x.thn <;> simp
        have e3 : x.els.isEmpty = (n3 == 0) := by rw [← HL3.out]; cases x.els <;> simp
        simp [stmtTop, exprsOf, k2, HL1.out, e2, e3]
      have HK : Hid (x.kind = 2) := k2
      have t2 : (x.kind == 2) = true := by simp [k2]
      have t1' : (x.kind != 1) = true := by simp [k2]
      clear k2 k1
      go_enter Try.func66, Try.ntmps66
      go_wp2_with fail
      all_goals first
        | (go_ret
           refine ⟨ret_bool ?_, by go_grown⟩
           rw [HT.out, HC.out]
           clear HT HC HEL HE H5 H6 IH HG HL1 HL2 HL3
           simp_all
           first | done | (intros; omega) | (intros; simp_all; done))
        | (have HTOP : Hid (stmtTop x = true) := by
             show stmtTop x = true
             rw [HC.out]
             clear HT HC HEL HE H5 H6 IH HG HL1 HL2 HL3
             simp_all
             first | done | (intros; omega) | (intros; simp_all; done)
           have hn1 : 1 ≤ n1 := by
             have h0 := HTOP.out
             rw [HC.out] at h0
             simp at h0
             omega
           generalize hwc : w.alloc _ = wc
           have HBC : Hid (Below w.heap.size w wc) := by rw [← hwc]; show Below w.heap.size w _; go_grown
           have q0 : wc.cell? ⟨w.heap.size, 0, none⟩ = some (.int .i64 x.kind) := by rw [← hwc]; simp
           have q4 : wc.cell? ⟨w.heap.size, 4, none⟩ = some (.slice a1 n1 cap1) := by rw [← hwc]; simp
           have q5 : wc.cell? ⟨w.heap.size, 5, none⟩ = some (.slice a2 n2 cap2) := by rw [← hwc]; simp
           have q6 : wc.cell? ⟨w.heap.size, 6, none⟩ = some (.slice a3 n3 cap3) := by rw [← hwc]; simp
           clear hwc
           have Q0 := Lib.hid q0
           clear q0
           refine (containsExprs_any (RExpr d' wc (· < wc.heap.size)) x.exprs (fun x => !exprB x) 87 _ wc HG.out ?_ (HE.out.mono (fun k hk => Nat.lt_of_lt_of_le hk HBC.out.size) (fun k hk => HBC.out.block k hk)) ?_).mono ?_
           · intro cs y hy; obtain ⟨_, _, _, _, _, rfl, _⟩ := hy.inv; rfl
           · intro W cs y hb hy hr
             exact stmt4_any d' W ((HM.out.keep HBC.out).keep hb) cs y (hr.mono (fun k hk => Nat.lt_of_lt_of_le hk hb.size) (fun k hk => hb.block k hk))
           rintro e w2 ⟨rfl, hb2⟩
           have HB2 : Hid (Below w.heap.size w w2) := afterCall HBC.out hb2
           have r4 := next (o := 4) hb2 q4
           have r5 := next (o := 5) hb2 q5
           have r6 := next (o := 6) hb2 q6
           clear hb2 q4 q5 q6
           have HX : Hid (x.exprs.all exprB = !(x.exprs.any fun x => !exprB x)) := by show _ = _; rw [List.all_eq_not_any_not]
           cases hany : x.exprs.any fun x => !exprB x with
           | true =>
             have HR : Hid (stmtB x = false) := by show stmtB x = false; rw [HT.out, HX.out, hany]; simp
             go_wp2
             go_ret
             exact ⟨ret_bool HR.out.symm, HB2.out⟩
           | false =>
             have HX2 : Hid (x.exprs.all exprB = true) := by show _ = _; rw [HX.out, hany]; rfl
             obtain ⟨y, hy⟩ : ∃ y, x.exprs[0]? = some y := ⟨_, List.getElem?_eq_getElem (by rw [HL1.out]; omega)⟩
             have HF : Hid (firstB x = isPlace y.kind) := by show firstB x = _; rw [first_of hy]; simp [HK.out]
             obtain ⟨b, off, cs, rfl, hbl, hc, hr⟩ := HEL.out 0 _ hy
             obtain ⟨_, _, _, _, _, rfl, -⟩ := hr.inv
             obtain ⟨c0, -⟩ := cellsAt_of_block (HB2.out.block b hbl) hc
             have c0' : w2.cell? ⟨b, off, none⟩ = some (.int .i64 y.kind) := by simpa using c0
             clear c0 hc hr hy
             go_wp2_with (go_at_call 84; refine (stmt2_any _ _).mono ?_; rintro e w' ⟨rfl, rfl⟩)
             all_goals first
               | (go_ret
                  refine ⟨ret_bool ?_, HB2.out⟩
                  rw [HT.out, HF.out]
                  simp only [*]
                  simp
                  done)
               | (go_ret
                  refine ⟨ret_bool ?_, HB2.out⟩
                  rw [HT.out, HF.out]
                  clear HT HX HX2 HEL HE H5 H6 IH HG HL1 HL2 HL3
                  simp_all
                  done)
               | (have HF2 : Hid (firstB x = true) := by
                    show firstB x = true
                    rw [HF.out]
                    all_goals (clear HT HX HX2 HEL HE H5 H6 IH HG HL1 HL2 HL3; simp_all)
                  refine (IH.out w2 _ x.thn (HM.out.keep HB2.out) (H5.out.mono (fun k hk => Nat.lt_of_lt_of_le hk HB2.out.size) (fun k hk => HB2.out.block k hk))).mono ?_
                  rintro e w3 ⟨rfl, hb3⟩
                  have HB3 := nextB hb3 HB2
                  have s6 := next (o := 6) hb3 r6
                  clear hb3 r4 r5 r6
                  cases hth : x.thn.all stmtB with
                  | false =>
                    go_wp2
                    go_ret
                    exact ⟨ret_bool (by rw [HT.out, hth]; simp), HB3.out⟩
                  | true =>
                    go_wp2_with fail
                    refine (IH.out w3 _ x.els (HM.out.keep HB3.out) (H6.out.mono (fun k hk => Nat.lt_of_lt_of_le hk HB3.out.size) (fun k hk => HB3.out.block k hk))).mono ?_
                    rintro e w4 ⟨rfl, hb4⟩
                    have HB4 := nextB hb4 HB3
                    clear hb4
                    go_wp2
                    go_ret
                    exact ⟨ret_bool (by rw [HT.out, HTOP.out, HX2.out, HF2.out, hth]; simp), HB4.out⟩))
    have t2 : (x.kind == 2) = false := by simp [k2]
    by_cases k3 : x.kind = 3
    · have HC : Hid (stmtTop x = (decide ((1 : Int) ≤ n1) && decide ((n1 : Int) ≤ 1) && (x.type.toList.isEmpty && x.name.toList.isEmpty) && x.num == 0)) := by
        show stmtTop x = _
        have e2 : x.thn.isEmpty = (n2 == 0) := by rw [← HL2.out]; cases x.thn <;> simp
        have e3 : x.els.isEmpty = (n3 == 0) := by rw [← HL3.out]; cases x.els <;> simp
        simp [stmtTop, exprsOf, k3, HL1.out, e2, e3]
      have HK : Hid (x.kind = 3) := k3
      have t3 : (x.kind == 3) = true := by simp [k3]
      have t1' : (x.kind != 1) = true := by simp [k3]
      clear k3 k1
      go_enter Try.func66, Try.ntmps66
      go_wp2_with fail
      all_goals first
        | (go_ret
           refine ⟨ret_bool ?_, by go_grown⟩
           rw [HT.out, HC.out]
           clear HT HC HEL HE H5 H6 IH HG HL1 HL2 HL3
           simp_all
           first | done | (intros; omega) | (intros; simp_all; done))
        | (have HTOP : Hid (stmtTop x = true) := by
             show stmtTop x = true
             rw [HC.out]
             clear HT HC HEL HE H5 H6 IH HG HL1 HL2 HL3
             simp_all
             first | done | (intros; omega) | (intros; simp_all; done)
           have hn1 : 1 ≤ n1 := by
             have h0 := HTOP.out
             rw [HC.out] at h0
             simp at h0
             omega
           generalize hwc : w.alloc _ = wc
           have HBC : Hid (Below w.heap.size w wc) := by rw [← hwc]; show Below w.heap.size w _; go_grown
           have q0 : wc.cell? ⟨w.heap.size, 0, none⟩ = some (.int .i64 x.kind) := by rw [← hwc]; simp
           have q4 : wc.cell? ⟨w.heap.size, 4, none⟩ = some (.slice a1 n1 cap1) := by rw [← hwc]; simp
           have q5 : wc.cell? ⟨w.heap.size, 5, none⟩ = some (.slice a2 n2 cap2) := by rw [← hwc]; simp
           have q6 : wc.cell? ⟨w.heap.size, 6, none⟩ = some (.slice a3 n3 cap3) := by rw [← hwc]; simp
           clear hwc
           have Q0 := Lib.hid q0
           clear q0
           refine (containsExprs_any (RExpr d' wc (· < wc.heap.size)) x.exprs (fun x => !exprB x) 87 _ wc HG.out ?_ (HE.out.mono (fun k hk => Nat.lt_of_lt_of_le hk HBC.out.size) (fun k hk => HBC.out.block k hk)) ?_).mono ?_
           · intro cs y hy; obtain ⟨_, _, _, _, _, rfl, _⟩ := hy.inv; rfl
           · intro W cs y hb hy hr
             exact stmt4_any d' W ((HM.out.keep HBC.out).keep hb) cs y (hr.mono (fun k hk => Nat.lt_of_lt_of_le hk hb.size) (fun k hk => hb.block k hk))
           rintro e w2 ⟨rfl, hb2⟩
           have HB2 : Hid (Below w.heap.size w w2) := afterCall HBC.out hb2
           have r4 := next (o := 4) hb2 q4
           have r5 := next (o := 5) hb2 q5
           have r6 := next (o := 6) hb2 q6
           clear hb2 q4 q5 q6
           have HX : Hid (x.exprs.all exprB = !(x.exprs.any fun x => !exprB x)) := by show _ = _; rw [List.all_eq_not_any_not]
           cases hany : x.exprs.any fun x => !exprB x with
           | true =>
             have HR : Hid (stmtB x = false) := by show stmtB x = false; rw [HT.out, HX.out, hany]; simp
             go_wp2
             go_ret
             exact ⟨ret_bool HR.out.symm, HB2.out⟩
           | false =>
             have HX2 : Hid (x.exprs.all exprB = true) := by show _ = _; rw [HX.out, hany]; rfl
             obtain ⟨y, hy⟩ : ∃ y, x.exprs[0]? = some y := ⟨_, List.getElem?_eq_getElem (by rw [HL1.out]; omega)⟩
             have HF : Hid (firstB x = true) := by show firstB x = _; rw [first_of hy]; simp [HK.out]
             obtain ⟨b, off, cs, rfl, hbl, hc, hr⟩ := HEL.out 0 _ hy
             obtain ⟨_, _, _, _, _, rfl, -⟩ := hr.inv
             obtain ⟨c0, -⟩ := cellsAt_of_block (HB2.out.block b hbl) hc
             have c0' : w2.cell? ⟨b, off, none⟩ = some (.int .i64 y.kind) := by simpa using c0
             clear c0 hc hr hy
             go_wp2_with (go_at_call 83; refine (stmt1_any _ _).mono ?_; rintro e w' ⟨rfl, rfl⟩)
             all_goals first
               | (go_ret
                  refine ⟨ret_bool ?_, HB2.out⟩
                  rw [HT.out, HF.out]
                  simp only [*]
                  simp
                  done)
               | (go_ret
                  refine ⟨ret_bool ?_, HB2.out⟩
                  rw [HT.out, HF.out]
                  clear HT HX HX2 HEL HE H5 H6 IH HG HL1 HL2 HL3
                  simp_all
                  done)
               | (have HF2 : Hid (firstB x = true) := by
                    show firstB x = true
                    rw [HF.out]
                    all_goals (clear HT HX HX2 HEL HE H5 H6 IH HG HL1 HL2 HL3; simp_all)
                  refine (IH.out w2 _ x.thn (HM.out.keep HB2.out) (H5.out.mono (fun k hk => Nat.lt_of_lt_of_le hk HB2.out.size) (fun k hk => HB2.out.block k hk))).mono ?_
                  rintro e w3 ⟨rfl, hb3⟩
                  have HB3 := nextB hb3 HB2
                  have s6 := next (o := 6) hb3 r6
                  clear hb3 r4 r5 r6
                  cases hth : x.thn.all stmtB with
                  | false =>
                    go_wp2
                    go_ret
                    exact ⟨ret_bool (by rw [HT.out, hth]; simp), HB3.out⟩
                  | true =>
                    go_wp2_with fail
                    refine (IH.out w3 _ x.els (HM.out.keep HB3.out) (H6.out.mono (fun k hk => Nat.lt_of_lt_of_le hk HB3.out.size) (fun k hk => HB3.out.block k hk))).mono ?_
                    rintro e w4 ⟨rfl, hb4⟩
                    have HB4 := nextB hb4 HB3
                    clear hb4
                    go_wp2
                    go_ret
                    exact ⟨ret_bool (by rw [HT.out, HTOP.out, HX2.out, HF2.out, hth]; simp), HB4.out⟩))
    have t3 : (x.kind == 3) = false := by simp [k3]
    by_cases k4 : x.kind = 4
    · have HC : Hid (stmtTop x = (decide ((1 : Int) ≤ n1) && decide ((n1 : Int) ≤ 1) && (x.type.toList.isEmpty && x.name.toList.isEmpty) && x.num == 0 && n3 == 0)) := by
        show stmtTop x = _
        have e2 : x.thn.isEmpty = (n2 == 0) := by rw [← HL2.out]; cases x.thn <;> simp
        have e3 : x.els.isEmpty = (n3 == 0) := by rw [← HL3.out]; cases x.els <;> simp
        simp [stmtTop, exprsOf, k4, HL1.out, e2, e3]
      have HK : Hid (x.kind = 4) := k4
      have t4 : (x.kind == 4) = true := by simp [k4]
      have t1' : (x.kind != 1) = true := by simp [k4]
      clear k4 k1
      go_enter Try.func66, Try.ntmps66
      go_wp2_with fail
      all_goals first
        | (go_ret
           refine ⟨ret_bool ?_, by go_grown⟩
           rw [HT.out, HC.out]
           clear HT HC HEL HE H5 H6 IH HG HL1 HL2 HL3
           simp_all
           first | done | (intros; omega) | (intros; simp_all; done))
        | (have HTOP : Hid (stmtTop x = true) := by
             show stmtTop x = true
             rw [HC.out]
             clear HT HC HEL HE H5 H6 IH HG HL1 HL2 HL3
             simp_all
             first | done | (intros; omega) | (intros; simp_all; done)
           have hn1 : 1 ≤ n1 := by
             have h0 := HTOP.out
             rw [HC.out] at h0
             simp at h0
             omega
           generalize hwc : w.alloc _ = wc
           have HBC : Hid (Below w.heap.size w wc) := by rw [← hwc]; show Below w.heap.size w _; go_grown
           have q0 : wc.cell? ⟨w.heap.size, 0, none⟩ = some (.int .i64 x.kind) := by rw [← hwc]; simp
           have q4 : wc.cell? ⟨w.heap.size, 4, none⟩ = some (.slice a1 n1 cap1) := by rw [← hwc]; simp
           have q5 : wc.cell? ⟨w.heap.size, 5, none⟩ = some (.slice a2 n2 cap2) := by rw [← hwc]; simp
           have q6 : wc.cell? ⟨w.heap.size, 6, none⟩ = some (.slice a3 n3 cap3) := by rw [← hwc]; simp
           clear hwc
           have Q0 := Lib.hid q0
           clear q0
           refine (containsExprs_any (RExpr d' wc (· < wc.heap.size)) x.exprs (fun x => !exprB x) 87 _ wc HG.out ?_ (HE.out.mono (fun k hk => Nat.lt_of_lt_of_le hk HBC.out.size) (fun k hk => HBC.out.block k hk)) ?_).mono ?_
           · intro cs y hy; obtain ⟨_, _, _, _, _, rfl, _⟩ := hy.inv; rfl
           · intro W cs y hb hy hr
             exact stmt4_any d' W ((HM.out.keep HBC.out).keep hb) cs y (hr.mono (fun k hk => Nat.lt_of_lt_of_le hk hb.size) (fun k hk => hb.block k hk))
           rintro e w2 ⟨rfl, hb2⟩
           have HB2 : Hid (Below w.heap.size w w2) := afterCall HBC.out hb2
           have r4 := next (o := 4) hb2 q4
           have r5 := next (o := 5) hb2 q5
           have r6 := next (o := 6) hb2 q6
           clear hb2 q4 q5 q6
           have HX : Hid (x.exprs.all exprB = !(x.exprs.any fun x => !exprB x)) := by show _ = _; rw [List.all_eq_not_any_not]
           cases hany : x.exprs.any fun x => !exprB x with
           | true =>
             have HR : Hid (stmtB x = false) := by show stmtB x = false; rw [HT.out, HX.out, hany]; simp
             go_wp2
             go_ret
             exact ⟨ret_bool HR.out.symm, HB2.out⟩
           | false =>
             have HX2 : Hid (x.exprs.all exprB = true) := by show _ = _; rw [HX.out, hany]; rfl
             obtain ⟨y, hy⟩ : ∃ y, x.exprs[0]? = some y := ⟨_, List.getElem?_eq_getElem (by rw [HL1.out]; omega)⟩
             have HF : Hid (firstB x = true) := by show firstB x = _; rw [first_of hy]; simp [HK.out]
             obtain ⟨b, off, cs, rfl, hbl, hc, hr⟩ := HEL.out 0 _ hy
             obtain ⟨_, _, _, _, _, rfl, -⟩ := hr.inv
             obtain ⟨c0, -⟩ := cellsAt_of_block (HB2.out.block b hbl) hc
             have c0' : w2.cell? ⟨b, off, none⟩ = some (.int .i64 y.kind) := by simpa using c0
             clear c0 hc hr hy
             go_wp2_with (go_at_call 83; refine (stmt1_any _ _).mono ?_; rintro e w' ⟨rfl, rfl⟩)
             all_goals first
               | (go_ret
                  refine ⟨ret_bool ?_, HB2.out⟩
                  rw [HT.out, HF.out]
                  simp only [*]
                  simp
                  done)
               | (go_ret
                  refine ⟨ret_bool ?_, HB2.out⟩
                  rw [HT.out, HF.out]
                  clear HT HX HX2 HEL HE H5 H6 IH HG HL1 HL2 HL3
                  simp_all
                  done)
               | (have HF2 : Hid (firstB x = true) := by
                    show firstB x = true
                    rw [HF.out]
                    all_goals (clear HT HX HX2 HEL HE H5 H6 IH HG HL1 HL2 HL3; simp_all)
                  refine (IH.out w2 _ x.thn (HM.out.keep HB2.out) (H5.out.mono (fun k hk => Nat.lt_of_lt_of_le hk HB2.out.size) (fun k hk => HB2.out.block k hk))).mono ?_
                  rintro e w3 ⟨rfl, hb3⟩
                  have HB3 := nextB hb3 HB2
                  have s6 := next (o := 6) hb3 r6
                  clear hb3 r4 r5 r6
                  cases hth : x.thn.all stmtB with
                  | false =>
                    go_wp2
                    go_ret
                    exact ⟨ret_bool (by rw [HT.out, hth]; simp), HB3.out⟩
                  | true =>
                    go_wp2_with fail
                    refine (IH.out w3 _ x.els (HM.out.keep HB3.out) (H6.out.mono (fun k hk => Nat.lt_of_lt_of_le hk HB3.out.size) (fun k hk => HB3.out.block k hk))).mono ?_
                    rintro e w4 ⟨rfl, hb4⟩
                    have HB4 := nextB hb4 HB3
                    clear hb4
                    go_wp2
                    go_ret
                    exact ⟨ret_bool (by rw [HT.out, HTOP.out, HX2.out, HF2.out, hth]; simp), HB4.out⟩))
    have t4 : (x.kind == 4) = false := by simp [k4]
    by_cases k5 : x.kind = 5
    · have HC : Hid (stmtTop x = (decide ((1 : Int) ≤ n1) && decide ((n1 : Int) ≤ 1) && (x.type.toList.isEmpty && x.name.toList.isEmpty) && (decide (0 ≤ x.num) && decide (x.num ≤ 99)) && n2 == 0 && n3 == 0)) := by
        show stmtTop x = _
        have e2 : x.thn.isEmpty = (n2 == 0) := by rw [← HL2.out]; cases x.thn <;> simp
        have e3 : x.els.isEmpty = (n3 == 0) := by rw [← HL3.out]; cases x.els <;> simp
        simp [stmtTop, exprsOf, k5, HL1.out, e2, e3]
      have HK : Hid (x.kind = 5) := k5
      have t5 : (x.kind == 5) = true := by simp [k5]
      have t1' : (x.kind != 1) = true := by simp [k5]
      clear k5 k1
      go_enter Try.func66, Try.ntmps66
      go_wp2_with fail
      all_goals first
        | (go_ret
           refine ⟨ret_bool ?_, by go_grown⟩
           rw [HT.out, HC.out]
           clear HT HC HEL HE H5 H6 IH HG HL1 HL2 HL3
           simp_all
           first | done | (intros; omega) | (intros; simp_all; done))
        | (have HTOP : Hid (stmtTop x = true) := by
             show stmtTop x = true
             rw [HC.out]
             clear HT HC HEL HE H5 H6 IH HG HL1 HL2 HL3
             simp_all
             first | done | (intros; omega) | (intros; simp_all; done)
           have hn1 : 1 ≤ n1 := by
             have h0 := HTOP.out
             rw [HC.out] at h0
             simp at h0
             omega
           generalize hwc : w.alloc _ = wc
           have HBC : Hid (Below w.heap.size w wc) := by rw [← hwc]; show Below w.heap.size w _; go_grown
           have q0 : wc.cell? ⟨w.heap.size, 0, none⟩ = some (.int .i64 x.kind) := by rw [← hwc]; simp
           have q4 : wc.cell? ⟨w.heap.size, 4, none⟩ = some (.slice a1 n1 cap1) := by rw [← hwc]; simp
           have q5 : wc.cell? ⟨w.heap.size, 5, none⟩ = some (.slice a2 n2 cap2) := by rw [← hwc]; simp
           have q6 : wc.cell? ⟨w.heap.size, 6, none⟩ = some (.slice a3 n3 cap3) := by rw [← hwc]; simp
           clear hwc
           have Q0 := Lib.hid q0
           clear q0
           refine (containsExprs_any (RExpr d' wc (· < wc.heap.size)) x.exprs (fun x => !exprB x) 87 _ wc HG.out ?_ (HE.out.mono (fun k hk => Nat.lt_of_lt_of_le hk HBC.out.size) (fun k hk => HBC.out.block k hk)) ?_).mono ?_
           · intro cs y hy; obtain ⟨_, _, _, _, _, rfl, _⟩ := hy.inv; rfl
           · intro W cs y hb hy hr
             exact stmt4_any d' W ((HM.out.keep HBC.out).keep hb) cs y (hr.mono (fun k hk => Nat.lt_of_lt_of_le hk hb.size) (fun k hk => hb.block k hk))
           rintro e w2 ⟨rfl, hb2⟩
           have HB2 : Hid (Below w.heap.size w w2) := afterCall HBC.out hb2
           have r4 := next (o := 4) hb2 q4
           have r5 := next (o := 5) hb2 q5
           have r6 := next (o := 6) hb2 q6
           clear hb2 q4 q5 q6
           have HX : Hid (x.exprs.all exprB = !(x.exprs.any fun x => !exprB x)) := by show _ = _; rw [List.all_eq_not_any_not]
           cases hany : x.exprs.any fun x => !exprB x with
           | true =>
             have HR : Hid (stmtB x = false) := by show stmtB x = false; rw [HT.out, HX.out, hany]; simp
             go_wp2
             go_ret
             exact ⟨ret_bool HR.out.symm, HB2.out⟩
           | false =>
             have HX2 : Hid (x.exprs.all exprB = true) := by show _ = _; rw [HX.out, hany]; rfl
             obtain ⟨y, hy⟩ : ∃ y, x.exprs[0]? = some y := ⟨_, List.getElem?_eq_getElem (by rw [HL1.out]; omega)⟩
             have HF : Hid (firstB x = true) := by show firstB x = _; rw [first_of hy]; simp [HK.out]
             obtain ⟨b, off, cs, rfl, hbl, hc, hr⟩ := HEL.out 0 _ hy
             obtain ⟨_, _, _, _, _, rfl, -⟩ := hr.inv
             obtain ⟨c0, -⟩ := cellsAt_of_block (HB2.out.block b hbl) hc
             have c0' : w2.cell? ⟨b, off, none⟩ = some (.int .i64 y.kind) := by simpa using c0
             clear c0 hc hr hy
             go_wp2_with (go_at_call 83; refine (stmt1_any _ _).mono ?_; rintro e w' ⟨rfl, rfl⟩)
             all_goals first
               | (go_ret
                  refine ⟨ret_bool ?_, HB2.out⟩
                  rw [HT.out, HF.out]
                  simp only [*]
                  simp
                  done)
               | (go_ret
                  refine ⟨ret_bool ?_, HB2.out⟩
                  rw [HT.out, HF.out]
                  clear HT HX HX2 HEL HE H5 H6 IH HG HL1 HL2 HL3
                  simp_all
                  done)
               | (have HF2 : Hid (firstB x = true) := by
                    show firstB x = true
                    rw [HF.out]
                    all_goals (clear HT HX HX2 HEL HE H5 H6 IH HG HL1 HL2 HL3; simp_all)
                  refine (IH.out w2 _ x.thn (HM.out.keep HB2.out) (H5.out.mono (fun k hk => Nat.lt_of_lt_of_le hk HB2.out.size) (fun k hk => HB2.out.block k hk))).mono ?_
                  rintro e w3 ⟨rfl, hb3⟩
                  have HB3 := nextB hb3 HB2
                  have s6 := next (o := 6) hb3 r6
                  clear hb3 r4 r5 r6
                  cases hth : x.thn.all stmtB with
                  | false =>
                    go_wp2
                    go_ret
                    exact ⟨ret_bool (by rw [HT.out, hth]; simp), HB3.out⟩
                  | true =>
                    go_wp2_with fail
                    refine (IH.out w3 _ x.els (HM.out.keep HB3.out) (H6.out.mono (fun k hk => Nat.lt_of_lt_of_le hk HB3.out.size) (fun k hk => HB3.out.block k hk))).mono ?_
                    rintro e w4 ⟨rfl, hb4⟩
                    have HB4 := nextB hb4 HB3
                    clear hb4
                    go_wp2
                    go_ret
                    exact ⟨ret_bool (by rw [HT.out, HTOP.out, HX2.out, HF2.out, hth]; simp), HB4.out⟩))
    have t5 : (x.kind == 5) = false := by simp [k5]
    by_cases k6 : x.kind = 6
    · have HC : Hid (stmtTop x = (decide ((1 : Int) ≤ n1) && decide ((n1 : Int) ≤ 1) && (x.type.toList.isEmpty && x.name.toList.isEmpty) && x.num == 0 && n2 == 0 && n3 == 0)) := by
        show stmtTop x = _
        have e2 : x.thn.isEmpty = (n2 == 0) := by rw [← HL2.out]; cases x.thn <;> simp
        have e3 : x.els.isEmpty = (n3 == 0) := by rw [← HL3.out]; cases x.els <;> simp
        simp [stmtTop, exprsOf, k6, HL1.out, e2, e3]
      have HK : Hid (x.kind = 6) := k6
      have t6 : (x.kind == 6) = true := by simp [k6]
      have t1' : (x.kind != 1) = true := by simp [k6]
      clear k6 k1
      go_enter Try.func66, Try.ntmps66
      go_wp2_with fail
      all_goals first
        | (go_ret
           refine ⟨ret_bool ?_, by go_grown⟩
           rw [HT.out, HC.out]
           clear HT HC HEL HE H5 H6 IH HG HL1 HL2 HL3
           simp_all
           first | done | (intros; omega) | (intros; simp_all; done))
        | (have HTOP : Hid (stmtTop x = true) := by
             show stmtTop x = true
             rw [HC.out]
             clear HT HC HEL HE H5 H6 IH HG HL1 HL2 HL3
             simp_all
             first | done | (intros; omega) | (intros; simp_all; done)
           have hn1 : 1 ≤ n1 := by
             have h0 := HTOP.out
             rw [HC.out] at h0
             simp at h0
             omega
           generalize hwc : w.alloc _ = wc
           have HBC : Hid (Below w.heap.size w wc) := by rw [← hwc]; show Below w.heap.size w _; go_grown
           have q0 : wc.cell? ⟨w.heap.size, 0, none⟩ = some (.int .i64 x.kind) := by rw [← hwc]; simp
           have q4 : wc.cell? ⟨w.heap.size, 4, none⟩ = some (.slice a1 n1 cap1) := by rw [← hwc]; simp
           have q5 : wc.cell? ⟨w.heap.size, 5, none⟩ = some (.slice a2 n2 cap2) := by rw [← hwc]; simp
           have q6 : wc.cell? ⟨w.heap.size, 6, none⟩ = some (.slice a3 n3 cap3) := by rw [← hwc]; simp
           clear hwc
           have Q0 := Lib.hid q0
           clear q0
           refine (containsExprs_any (RExpr d' wc (· < wc.heap.size)) x.exprs (fun x => !exprB x) 87 _ wc HG.out ?_ (HE.out.mono (fun k hk => Nat.lt_of_lt_of_le hk HBC.out.size) (fun k hk => HBC.out.block k hk)) ?_).mono ?_
           · intro cs y hy; obtain ⟨_, _, _, _, _, rfl, _⟩ := hy.inv; rfl
           · intro W cs y hb hy hr
             exact stmt4_any d' W ((HM.out.keep HBC.out).keep hb) cs y (hr.mono (fun k hk => Nat.lt_of_lt_of_le hk hb.size) (fun k hk => hb.block k hk))
           rintro e w2 ⟨rfl, hb2⟩
           have HB2 : Hid (Below w.heap.size w w2) := afterCall HBC.out hb2
           have r4 := next (o := 4) hb2 q4
           have r5 := next (o := 5) hb2 q5
           have r6 := next (o := 6) hb2 q6
           clear hb2 q4 q5 q6
           have HX : Hid (x.exprs.all exprB = !(x.exprs.any fun x => !exprB x)) := by show _ = _; rw [List.all_eq_not_any_not]
           cases hany : x.exprs.any fun x => !exprB x with
           | true =>
             have HR : Hid (stmtB x = false) := by show stmtB x = false; rw [HT.out, HX.out, hany]; simp
             go_wp2
             go_ret
             exact ⟨ret_bool HR.out.symm, HB2.out⟩
           | false =>
             have HX2 : Hid (x.exprs.all exprB = true) := by show _ = _; rw [HX.out, hany]; rfl
             obtain ⟨y, hy⟩ : ∃ y, x.exprs[0]? = some y := ⟨_, List.getElem?_eq_getElem (by rw [HL1.out]; omega)⟩
             have HF : Hid (firstB x = true) := by show firstB x = _; rw [first_of hy]; simp [HK.out]
             obtain ⟨b, off, cs, rfl, hbl, hc, hr⟩ := HEL.out 0 _ hy
             obtain ⟨_, _, _, _, _, rfl, -⟩ := hr.inv
             obtain ⟨c0, -⟩ := cellsAt_of_block (HB2.out.block b hbl) hc
             have c0' : w2.cell? ⟨b, off, none⟩ = some (.int .i64 y.kind) := by simpa using c0
             clear c0 hc hr hy
             go_wp2_with (go_at_call 83; refine (stmt1_any _ _).mono ?_; rintro e w' ⟨rfl, rfl⟩)
             all_goals first
               | (go_ret
                  refine ⟨ret_bool ?_, HB2.out⟩
                  rw [HT.out, HF.out]
                  simp only [*]
                  simp
                  done)
               | (go_ret
                  refine ⟨ret_bool ?_, HB2.out⟩
                  rw [HT.out, HF.out]
                  clear HT HX HX2 HEL HE H5 H6 IH HG HL1 HL2 HL3
                  simp_all
                  done)
               | (have HF2 : Hid (firstB x = true) := by
                    show firstB x = true
                    rw [HF.out]
                    all_goals (clear HT HX HX2 HEL HE H5 H6 IH HG HL1 HL2 HL3; simp_all)
                  refine (IH.out w2 _ x.thn (HM.out.keep HB2.out) (H5.out.mono (fun k hk => Nat.lt_of_lt_of_le hk HB2.out.size) (fun k hk => HB2.out.block k hk))).mono ?_
                  rintro e w3 ⟨rfl, hb3⟩
                  have HB3 := nextB hb3 HB2
                  have s6 := next (o := 6) hb3 r6
                  clear hb3 r4 r5 r6
                  cases hth : x.thn.all stmtB with
                  | false =>
                    go_wp2
                    go_ret
                    exact ⟨ret_bool (by rw [HT.out, hth]; simp), HB3.out⟩
                  | true =>
                    go_wp2_with fail
                    refine (IH.out w3 _ x.els (HM.out.keep HB3.out) (H6.out.mono (fun k hk => Nat.lt_of_lt_of_le hk HB3.out.size) (fun k hk => HB3.out.block k hk))).mono ?_
                    rintro e w4 ⟨rfl, hb4⟩
                    have HB4 := nextB hb4 HB3
                    clear hb4
                    go_wp2
                    go_ret
                    exact ⟨ret_bool (by rw [HT.out, HTOP.out, HX2.out, HF2.out, hth]; simp), HB4.out⟩))
    have t6 : (x.kind == 6) = false := by simp [k6]
    by_cases k7 : x.kind = 7
    · have HC : Hid (stmtTop x = (decide ((1 : Int) ≤ n1) && decide ((n1 : Int) ≤ 1) && (x.type.toList.isEmpty && x.name.toList.isEmpty) && x.num == 0 && n2 == 0 && n3 == 0)) := by
        show stmtTop x = _
        have e2 : x.thn.isEmpty = (n2 == 0) := by rw [← HL2.out]; cases x.thn <;> simp
        have e3 : x.els.isEmpty = (n3 == 0) := by rw [← HL3.out]; cases x.els <;> simp
        simp [stmtTop, exprsOf, k7, HL1.out, e2, e3]
      have HK : Hid (x.kind = 7) := k7
      have t7 : (x.kind == 7) = true := by simp [k7]
      have t1' : (x.kind != 1) = true := by simp [k7]
      clear k7 k1
      go_enter Try.func66, Try.ntmps66
      go_wp2_with fail
      all_goals first
        | (go_ret
           refine ⟨ret_bool ?_, by go_grown⟩
           rw [HT.out, HC.out]
           clear HT HC HEL HE H5 H6 IH HG HL1 HL2 HL3
           simp_all
           first | done | (intros; omega) | (intros; simp_all; done))
        | (have HTOP : Hid (stmtTop x = true) := by
             show stmtTop x = true
             rw [HC.out]
             clear HT HC HEL HE H5 H6 IH HG HL1 HL2 HL3
             simp_all
             first | done | (intros; omega) | (intros; simp_all; done)
           have hn1 : 1 ≤ n1 := by
             have h0 := HTOP.out
             rw [HC.out] at h0
             simp at h0
             omega
           generalize hwc : w.alloc _ = wc
           have HBC : Hid (Below w.heap.size w wc) := by rw [← hwc]; show Below w.heap.size w _; go_grown
           have q0 : wc.cell? ⟨w.heap.size, 0, none⟩ = some (.int .i64 x.kind) := by rw [← hwc]; simp
           have q4 : wc.cell? ⟨w.heap.size, 4, none⟩ = some (.slice a1 n1 cap1) := by rw [← hwc]; simp
           have q5 : wc.cell? ⟨w.heap.size, 5, none⟩ = some (.slice a2 n2 cap2) := by rw [← hwc]; simp
           have q6 : wc.cell? ⟨w.heap.size, 6, none⟩ = some (.slice a3 n3 cap3) := by rw [← hwc]; simp
           clear hwc
           have Q0 := Lib.hid q0
           clear q0
           refine (containsExprs_any (RExpr d' wc (· < wc.heap.size)) x.exprs (fun x => !exprB x) 87 _ wc HG.out ?_ (HE.out.mono (fun k hk => Nat.lt_of_lt_of_le hk HBC.out.size) (fun k hk => HBC.out.block k hk)) ?_).mono ?_
           · intro cs y hy; obtain ⟨_, _, _, _, _, rfl, _⟩ := hy.inv; rfl
           · intro W cs y hb hy hr
             exact stmt4_any d' W ((HM.out.keep HBC.out).keep hb) cs y (hr.mono (fun k hk => Nat.lt_of_lt_of_le hk hb.size) (fun k hk => hb.block k hk))
           rintro e w2 ⟨rfl, hb2⟩
           have HB2 : Hid (Below w.heap.size w w2) := afterCall HBC.out hb2
           have r4 := next (o := 4) hb2 q4
           have r5 := next (o := 5) hb2 q5
           have r6 := next (o := 6) hb2 q6
           clear hb2 q4 q5 q6
           have HX : Hid (x.exprs.all exprB = !(x.exprs.any fun x => !exprB x)) := by show _ = _; rw [List.all_eq_not_any_not]
           cases hany : x.exprs.any fun x => !exprB x with
           | true =>
             have HR : Hid (stmtB x = false) := by show stmtB x = false; rw [HT.out, HX.out, hany]; simp
             go_wp2
             go_ret
             exact ⟨ret_bool HR.out.symm, HB2.out⟩
           | false =>
             have HX2 : Hid (x.exprs.all exprB = true) := by show _ = _; rw [HX.out, hany]; rfl
             obtain ⟨y, hy⟩ : ∃ y, x.exprs[0]? = some y := ⟨_, List.getElem?_eq_getElem (by rw [HL1.out]; omega)⟩
             have HF : Hid (firstB x = (y.kind == 10)) := by show firstB x = _; rw [first_of hy]; simp [HK.out]
             obtain ⟨b, off, cs, rfl, hbl, hc, hr⟩ := HEL.out 0 _ hy
             obtain ⟨_, _, _, _, _, rfl, -⟩ := hr.inv
             obtain ⟨c0, -⟩ := cellsAt_of_block (HB2.out.block b hbl) hc
             have c0' : w2.cell? ⟨b, off, none⟩ = some (.int .i64 y.kind) := by simpa using c0
             clear c0 hc hr hy
             go_wp2_with (go_at_call 85; refine (stmt3_any _ _).mono ?_; rintro e w' ⟨rfl, rfl⟩)
             all_goals first
               | (go_ret
                  refine ⟨ret_bool ?_, HB2.out⟩
                  rw [HT.out, HF.out]
                  simp only [*]
                  simp
                  done)
               | (go_ret
                  refine ⟨ret_bool ?_, HB2.out⟩
                  rw [HT.out, HF.out]
                  clear HT HX HX2 HEL HE H5 H6 IH HG HL1 HL2 HL3
                  simp_all
                  done)
               | (have HF2 : Hid (firstB x = true) := by
                    show firstB x = true
                    rw [HF.out]
                    all_goals (clear HT HX HX2 HEL HE H5 H6 IH HG HL1 HL2 HL3; simp_all)
                  refine (IH.out w2 _ x.thn (HM.out.keep HB2.out) (H5.out.mono (fun k hk => Nat.lt_of_lt_of_le hk HB2.out.size) (fun k hk => HB2.out.block k hk))).mono ?_
                  rintro e w3 ⟨rfl, hb3⟩
                  have HB3 := nextB hb3 HB2
                  have s6 := next (o := 6) hb3 r6
                  clear hb3 r4 r5 r6
                  cases hth : x.thn.all stmtB with
                  | false =>
                    go_wp2
                    go_ret
                    exact ⟨ret_bool (by rw [HT.out, hth]; simp), HB3.out⟩
                  | true =>
                    go_wp2_with fail
                    refine (IH.out w3 _ x.els (HM.out.keep HB3.out) (H6.out.mono (fun k hk => Nat.lt_of_lt_of_le hk HB3.out.size) (fun k hk => HB3.out.block k hk))).mono ?_
                    rintro e w4 ⟨rfl, hb4⟩
                    have HB4 := nextB hb4 HB3
                    clear hb4
                    go_wp2
                    go_ret
                    exact ⟨ret_bool (by rw [HT.out, HTOP.out, HX2.out, HF2.out, hth]; simp), HB4.out⟩))
    have t7 : (x.kind == 7) = false := by simp [k7]
    have HC : Hid (stmtB x = false) := by
      have : stmtTop x = false := by
        unfold stmtTop exprsOf
        rw [if_neg k1, if_neg k2, if_neg (by omega)]; simp
      show stmtB x = false
      rw [HT.out, this]; simp
    clear k1 k2 k3 k4 k5 k6 k7
    go_enter Try.func66, Try.ntmps66
    go_wp2
    go_ret
    exact ⟨ret_bool HC.out.symm, by go_grown⟩
end Go.Proofs.Ytjciafpihdbedaa
end
section
/- The reference's MayExpr. -/
namespace Go.Proofs.Ytjciafpihdbedaa
open Go.RowKit

def kidsOf (k : Int) : Int × Int := if (shapeOf k).2 then ((shapeOf k).1.least, (shapeOf k).1.most) else (-1, -1)
theorem kids_1 (w : World) : Calls Try.prog 94 #[.int .i64 1] w fun e w' => e = .returned (.tuple #[.int .i64 (kidsOf 1).1, .int .i64 (kidsOf 1).2]) ∧ w = w' := by
  go_enter Try.func94, Try.ntmps94
  go_wp2
  go_ret2
  exact ⟨rfl, rfl⟩
theorem kids_2 (w : World) : Calls Try.prog 94 #[.int .i64 2] w fun e w' => e = .returned (.tuple #[.int .i64 (kidsOf 2).1, .int .i64 (kidsOf 2).2]) ∧ w = w' := by
  go_enter Try.func94, Try.ntmps94
  go_wp2
  go_ret2
  exact ⟨rfl, rfl⟩
theorem kids_3 (w : World) : Calls Try.prog 94 #[.int .i64 3] w fun e w' => e = .returned (.tuple #[.int .i64 (kidsOf 3).1, .int .i64 (kidsOf 3).2]) ∧ w = w' := by
  go_enter Try.func94, Try.ntmps94
  go_wp2
  go_ret2
  exact ⟨rfl, rfl⟩
theorem kids_4 (w : World) : Calls Try.prog 94 #[.int .i64 4] w fun e w' => e = .returned (.tuple #[.int .i64 (kidsOf 4).1, .int .i64 (kidsOf 4).2]) ∧ w = w' := by
  go_enter Try.func94, Try.ntmps94
  go_wp2
  go_ret2
  exact ⟨rfl, rfl⟩
theorem kids_5 (w : World) : Calls Try.prog 94 #[.int .i64 5] w fun e w' => e = .returned (.tuple #[.int .i64 (kidsOf 5).1, .int .i64 (kidsOf 5).2]) ∧ w = w' := by
  go_enter Try.func94, Try.ntmps94
  go_wp2
  go_ret2
  exact ⟨rfl, rfl⟩
theorem kids_6 (w : World) : Calls Try.prog 94 #[.int .i64 6] w fun e w' => e = .returned (.tuple #[.int .i64 (kidsOf 6).1, .int .i64 (kidsOf 6).2]) ∧ w = w' := by
  go_enter Try.func94, Try.ntmps94
  go_wp2
  go_ret2
  exact ⟨rfl, rfl⟩
theorem kids_7 (w : World) : Calls Try.prog 94 #[.int .i64 7] w fun e w' => e = .returned (.tuple #[.int .i64 (kidsOf 7).1, .int .i64 (kidsOf 7).2]) ∧ w = w' := by
  go_enter Try.func94, Try.ntmps94
  go_wp2
  go_ret2
  exact ⟨rfl, rfl⟩
theorem kids_8 (w : World) : Calls Try.prog 94 #[.int .i64 8] w fun e w' => e = .returned (.tuple #[.int .i64 (kidsOf 8).1, .int .i64 (kidsOf 8).2]) ∧ w = w' := by
  go_enter Try.func94, Try.ntmps94
  go_wp2
  go_ret2
  exact ⟨rfl, rfl⟩
theorem kids_9 (w : World) : Calls Try.prog 94 #[.int .i64 9] w fun e w' => e = .returned (.tuple #[.int .i64 (kidsOf 9).1, .int .i64 (kidsOf 9).2]) ∧ w = w' := by
  go_enter Try.func94, Try.ntmps94
  go_wp2
  go_ret2
  exact ⟨rfl, rfl⟩
theorem kids_10 (w : World) : Calls Try.prog 94 #[.int .i64 10] w fun e w' => e = .returned (.tuple #[.int .i64 (kidsOf 10).1, .int .i64 (kidsOf 10).2]) ∧ w = w' := by
  go_enter Try.func94, Try.ntmps94
  go_wp2
  go_ret2
  exact ⟨rfl, rfl⟩
theorem kids_11 (w : World) : Calls Try.prog 94 #[.int .i64 11] w fun e w' => e = .returned (.tuple #[.int .i64 (kidsOf 11).1, .int .i64 (kidsOf 11).2]) ∧ w = w' := by
  go_enter Try.func94, Try.ntmps94
  go_wp2
  go_ret2
  exact ⟨rfl, rfl⟩
theorem kids_12 (w : World) : Calls Try.prog 94 #[.int .i64 12] w fun e w' => e = .returned (.tuple #[.int .i64 (kidsOf 12).1, .int .i64 (kidsOf 12).2]) ∧ w = w' := by
  go_enter Try.func94, Try.ntmps94
  go_wp2
  go_ret2
  exact ⟨rfl, rfl⟩
theorem kids_13 (w : World) : Calls Try.prog 94 #[.int .i64 13] w fun e w' => e = .returned (.tuple #[.int .i64 (kidsOf 13).1, .int .i64 (kidsOf 13).2]) ∧ w = w' := by
  go_enter Try.func94, Try.ntmps94
  go_wp2
  go_ret2
  exact ⟨rfl, rfl⟩
theorem kids_14 (w : World) : Calls Try.prog 94 #[.int .i64 14] w fun e w' => e = .returned (.tuple #[.int .i64 (kidsOf 14).1, .int .i64 (kidsOf 14).2]) ∧ w = w' := by
  go_enter Try.func94, Try.ntmps94
  go_wp2
  go_ret2
  exact ⟨rfl, rfl⟩
theorem kids_15 (w : World) : Calls Try.prog 94 #[.int .i64 15] w fun e w' => e = .returned (.tuple #[.int .i64 (kidsOf 15).1, .int .i64 (kidsOf 15).2]) ∧ w = w' := by
  go_enter Try.func94, Try.ntmps94
  go_wp2
  go_ret2
  exact ⟨rfl, rfl⟩
theorem kids_16 (w : World) : Calls Try.prog 94 #[.int .i64 16] w fun e w' => e = .returned (.tuple #[.int .i64 (kidsOf 16).1, .int .i64 (kidsOf 16).2]) ∧ w = w' := by
  go_enter Try.func94, Try.ntmps94
  go_wp2
  go_ret2
  exact ⟨rfl, rfl⟩
theorem kids_17 (w : World) : Calls Try.prog 94 #[.int .i64 17] w fun e w' => e = .returned (.tuple #[.int .i64 (kidsOf 17).1, .int .i64 (kidsOf 17).2]) ∧ w = w' := by
  go_enter Try.func94, Try.ntmps94
  go_wp2
  go_ret2
  exact ⟨rfl, rfl⟩
theorem kids_18 (w : World) : Calls Try.prog 94 #[.int .i64 18] w fun e w' => e = .returned (.tuple #[.int .i64 (kidsOf 18).1, .int .i64 (kidsOf 18).2]) ∧ w = w' := by
  go_enter Try.func94, Try.ntmps94
  go_wp2
  go_ret2
  exact ⟨rfl, rfl⟩
theorem kinds (k : Int) (hk : 1 ≤ k ∧ k ≤ 18) : k = 1 ∨ k = 2 ∨ k = 3 ∨ k = 4 ∨ k = 5 ∨ k = 6 ∨ k = 7 ∨ k = 8 ∨ k = 9 ∨ k = 10 ∨ k = 11 ∨ k = 12 ∨ k = 13 ∨ k = 14 ∨ k = 15 ∨ k = 16 ∨ k = 17 ∨ k = 18 := by omega
theorem kids_any (k : Int) (w : World) : Calls Try.prog 94 #[.int .i64 k] w fun e w' => e = .returned (.tuple #[.int .i64 (kidsOf k).1, .int .i64 (kidsOf k).2]) ∧ w = w' := by
  by_cases hk : 1 ≤ k ∧ k ≤ 18
  · rcases kinds k hk with rfl | rfl | rfl | rfl | rfl | rfl | rfl | rfl | rfl | rfl | rfl | rfl | rfl | rfl | rfl | rfl | rfl | rfl
    · exact kids_1 w
    · exact kids_2 w
    · exact kids_3 w
    · exact kids_4 w
    · exact kids_5 w
    · exact kids_6 w
    · exact kids_7 w
    · exact kids_8 w
    · exact kids_9 w
    · exact kids_10 w
    · exact kids_11 w
    · exact kids_12 w
    · exact kids_13 w
    · exact kids_14 w
    · exact kids_15 w
    · exact kids_16 w
    · exact kids_17 w
    · exact kids_18 w
  · have H : Hid (kidsOf k = (-1, -1)) := by
      have : shapeOf k = (noShape, false) := by unfold shapeOf; rw [if_neg hk]
      show kidsOf k = _
      unfold kidsOf; rw [this]; rfl
    have h1 : (k == 1) = false := by simp; omega
    have h2 : (k == 2) = false := by simp; omega
    have h3 : (k == 3) = false := by simp; omega
    have h4 : (k == 4) = false := by simp; omega
    have h5 : (k == 5) = false := by simp; omega
    have h6 : (k == 6) = false := by simp; omega
    have h7 : (k == 7) = false := by simp; omega
    have h8 : (k == 8) = false := by simp; omega
    have h9 : (k == 9) = false := by simp; omega
    have h10 : (k == 10) = false := by simp; omega
    have h11 : (k == 11) = false := by simp; omega
    have h12 : (k == 12) = false := by simp; omega
    have h13 : (k == 13) = false := by simp; omega
    have h14 : (k == 14) = false := by simp; omega
    have h15 : (k == 15) = false := by simp; omega
    have h16 : (k == 16) = false := by simp; omega
    have h17 : (k == 17) = false := by simp; omega
    have h18 : (k == 18) = false := by simp; omega
    clear hk
    go_enter Try.func94, Try.ntmps94
    go_wp2
    go_ret2
    rw [H.out]
    exact ⟨rfl, rfl⟩

theorem shape_num (k : Int) (h1 : ¬ k = 1) (h2 : ¬ k = 11) : (shapeOf k).1.num = 0 := by
  by_cases hk : 1 ≤ k ∧ k ≤ 18
  · rcases kinds k hk with rfl | rfl | rfl | rfl | rfl | rfl | rfl | rfl | rfl | rfl | rfl | rfl | rfl | rfl | rfl | rfl | rfl | rfl <;> first | rfl | contradiction
  · have : shapeOf k = (noShape, false) := by unfold shapeOf; rw [if_neg hk]
    rw [this]; rfl
theorem shape_name (k : Int) : (shapeOf k).1.name = (k == 4 || k == 5 || k == 7 || k == 10) := by
  by_cases hk : 1 ≤ k ∧ k ≤ 18
  · rcases kinds k hk with rfl | rfl | rfl | rfl | rfl | rfl | rfl | rfl | rfl | rfl | rfl | rfl | rfl | rfl | rfl | rfl | rfl | rfl <;> rfl
  · have : shapeOf k = (noShape, false) := by unfold shapeOf; rw [if_neg hk]
    rw [this, Bool.eq_iff_iff]; simp [noShape]; omega
theorem shape_least (k : Int) : 0 ≤ (shapeOf k).1.least := by
  by_cases hk : 1 ≤ k ∧ k ≤ 18
  · rcases kinds k hk with rfl | rfl | rfl | rfl | rfl | rfl | rfl | rfl | rfl | rfl | rfl | rfl | rfl | rfl | rfl | rfl | rfl | rfl <;> decide
  · have : shapeOf k = (noShape, false) := by unfold shapeOf; rw [if_neg hk]
    rw [this]; decide

/-- What is asked at the top, with the kids' bounds as the reference has them. -/
theorem exprTop_ref (x : Expr) : exprTop x = (!decide ((kidsOf x.kind).1 < 0) && !decide ((x.kids.length : Int) < (kidsOf x.kind).1) && !decide ((kidsOf x.kind).2 < (x.kids.length : Int)) && decide (0 ≤ x.num) && decide (x.num ≤ (shapeOf x.kind).1.num) &&
    (if (shapeOf x.kind).1.name then isNameB x.name else x.name.data.toList.isEmpty)) := by
  rw [exprTop_eq]
  have h := shape_least x.kind
  unfold kidsOf
  cases hok : (shapeOf x.kind).2 with
  | false => simp
  | true =>
    simp only [if_true]
    have e1 : (!decide ((shapeOf x.kind).1.least < 0)) = true := by simp; exact h
    have e2 : (!decide ((x.kids.length : Int) < (shapeOf x.kind).1.least)) = decide ((shapeOf x.kind).1.least ≤ x.kids.length) := by rw [Bool.eq_iff_iff]; simp
    have e3 : (!decide ((shapeOf x.kind).1.most < (x.kids.length : Int))) = decide ((x.kids.length : Int) ≤ (shapeOf x.kind).1.most) := by rw [Bool.eq_iff_iff]; simp
    rw [e1, e2, e3]

set_option maxHeartbeats 2000000 in
theorem mayExpr_any (d : Nat) : ∀ (w : World) (cs : List Value) (x : Expr), RExpr d w (· < w.heap.size) cs x →
    Calls Try.prog 80 #[.agg cs.toArray] w fun e w' => e = .returned (.bool (exprB x)) ∧ Below w.heap.size w w' := by
  induction d using Nat.strongRecOn with
  | ind d ih =>
    intro w cs x hx
    obtain ⟨d', a', n', cap', hd, rfl, wk, wn, ws, hk⟩ := hx.inv
    have IH := Lib.hid ih
    have HT := Lib.hid (exprB_eq x)
    have HTT := Lib.hid (exprTop_ref x)
    have hnum : x.num ≤ 9223372036854775807 := by have := wn; simp [Lit.wf, IntKind.min, IntKind.max, IntKind.signed, IntKind.bits] at this; omega
    obtain ⟨_, _, _, heq, hlen, _, hmx, hel⟩ := hk
    cases heq
    unfold maxC at hmx
    have HEL := Lib.hid hel
    have HL := Lib.hid hlen
    clear ih hx hlen hel wk wn
    have hKC : ∀ w : World, Calls Try.prog 94 #[.int .i64 x.kind] w fun e w' => e = .returned (.tuple #[.int .i64 (kidsOf x.kind).1, .int .i64 (kidsOf x.kind).2]) ∧ w = w' := kids_any x.kind
    have hTT := HTT.out
    rw [← Lib.toList_data, HL.out] at hTT
    clear HTT
    generalize hKO : kidsOf x.kind = ko at *
    clear hKO
    obtain ⟨lo, hi⟩ := ko
    have HKC := Lib.hid hKC
    clear hKC
    simp only [] at hTT
    by_cases k1 : x.kind = 1
    · have t1 : (x.kind == 1) = true := by simp [k1]
      have HC : Hid (exprTop x = (!decide (lo < 0) && !decide ((n' : Int) < lo) && !decide (hi < (n' : Int)) && decide (0 ≤ x.num) && x.name.toList.isEmpty)) := by
        show exprTop x = _
        rw [hTT, k1]
        simp [shapeOf, shapes, hnum]
      clear hTT k1
      cases hem : x.name.toList.isEmpty with
      | true =>
        have hem2 : (!x.name.toList.isEmpty) = false := by rw [hem]; rfl
        go_enter Try.func80, Try.ntmps80
        go_wp2_with (first
          | (go_at_call 94; refine (HKC.out _).mono ?_; rintro e w' ⟨rfl, rfl⟩)
          | (go_at_call 51; refine (refIsName_any _ ws _).mono ?_; rintro e w' ⟨rfl, rfl⟩))
        all_goals first
          | (go_ret
             refine ⟨ret_bool ?_, by go_grown⟩
             rw [HT.out, HC.out]
             clear HT HC HEL HL IH HKC
             simp_all
             first | done | (intros; omega))
          | (have HTOP : Hid (exprTop x = true) := by
               show exprTop x = true
               rw [HC.out]
               clear HT HC HEL HL IH HKC
               simp_all
               first | done | (intros; omega)
             go_loopw [81] (fun v81 w' => ∃ j : Nat, j ≤ n' ∧ v81 = .int .i64 j ∧ Hid (x.kids.all exprB = (x.kids.drop j).all exprB) ∧ Hid (Below w.heap.size w w')) (fun v81 _ => n' - (intOf v81).toNat)
             case atStart => exact ⟨0, by omega, rfl, rfl, by show Below w.heap.size w _; go_grown⟩
             case round =>
               obtain ⟨j, hj, rfl, HP, HB⟩ := hrel
               by_cases hlt : j < n'
               · obtain ⟨y, hy⟩ : ∃ y, x.kids[j]? = some y := ⟨_, List.getElem?_eq_getElem (by rw [HL.out]; exact hlt)⟩
                 have HY := Lib.hid hy
                 clear hy
                 obtain ⟨b, off, cs, rfl, hbl, hc, hr⟩ := HEL.out j _ HY.out
                 obtain ⟨d2, a2, n2, cap2, hd2, rfl, -⟩ := hr.inv
                 have HR := Lib.hid hr
                 obtain ⟨c0, c1, c2, c3, -⟩ := cellsAt_of_block (HB.out.block b hbl) hc
                 have HD : Hid (x.kids.drop j = y :: x.kids.drop (j + 1)) := drop_of_getElem? HY.out
                 have HB1 : Hid (∀ X, Below w.heap.size w (wr.alloc X)) := fun X => HB.out.alloc HB.out.size X
                 clear hc hr
                 go_wp2_with fail
                 (with_reducible refine (IH.out d' hd _ [_, _, _, _] y (HR.out.mono ?_ ?_)).mono ?_)
                 · exact fun k hk => Nat.lt_of_lt_of_le hk (HB1.out _).size
                 · exact fun k hk => (HB1.out _).block k hk
                 rintro e w2 ⟨rfl, hb2⟩
                 have HB2 : Hid (Below w.heap.size w w2) := afterCall (HB1.out _) hb2
                 clear hb2
                 cases hq : exprB y with
                 | false =>
                   go_wp2
                   go_ret
                   exact ⟨ret_bool (by rw [HT.out, HTOP.out, HP.out, HD.out]; simp [hq]), HB2.out⟩
                 | true =>
                   go_wp2
                   have HP2 : Hid (x.kids.all exprB = (x.kids.drop (j + 1)).all exprB) := by
                     show x.kids.all exprB = (x.kids.drop (j + 1)).all exprB
                     rw [HP.out, HD.out]; simp [hq]
                   refine ⟨?_, by simp [intOf]; omega⟩
                   first
                     | exact ⟨j + 1, by omega, by go_num, HP2, HB2⟩
                     | ((repeat apply Exists.intro)
                        refine ⟨⟨j + 1, by omega, ?_, HP2, HB2⟩, rfl⟩
                        go_num)
               · obtain rfl : j = n' := by omega
                 have HE : Hid (x.kids.drop j = []) := List.drop_of_length_le (by rw [HL.out]; exact Nat.le_refl _)
                 go_wp2
                 go_ret
                 exact ⟨ret_bool (by rw [HT.out, HTOP.out, HP.out, HE.out]; rfl), HB.out⟩)
      | false =>
        have hem2 : (!x.name.toList.isEmpty) = true := by rw [hem]; rfl
        go_enter Try.func80, Try.ntmps80
        go_wp2_with (first
          | (go_at_call 94; refine (HKC.out _).mono ?_; rintro e w' ⟨rfl, rfl⟩)
          | (go_at_call 51; refine (refIsName_any _ ws _).mono ?_; rintro e w' ⟨rfl, rfl⟩))
        all_goals first
          | (go_ret
             refine ⟨ret_bool ?_, by go_grown⟩
             rw [HT.out, HC.out]
             clear HT HC HEL HL IH HKC
             simp_all
             first | done | (intros; omega))
          | (have HTOP : Hid (exprTop x = true) := by
               show exprTop x = true
               rw [HC.out]
               clear HT HC HEL HL IH HKC
               simp_all
               first | done | (intros; omega)
             go_loopw [81] (fun v81 w' => ∃ j : Nat, j ≤ n' ∧ v81 = .int .i64 j ∧ Hid (x.kids.all exprB = (x.kids.drop j).all exprB) ∧ Hid (Below w.heap.size w w')) (fun v81 _ => n' - (intOf v81).toNat)
             case atStart => exact ⟨0, by omega, rfl, rfl, by show Below w.heap.size w _; go_grown⟩
             case round =>
               obtain ⟨j, hj, rfl, HP, HB⟩ := hrel
               by_cases hlt : j < n'
               · obtain ⟨y, hy⟩ : ∃ y, x.kids[j]? = some y := ⟨_, List.getElem?_eq_getElem (by rw [HL.out]; exact hlt)⟩
                 have HY := Lib.hid hy
                 clear hy
                 obtain ⟨b, off, cs, rfl, hbl, hc, hr⟩ := HEL.out j _ HY.out
                 obtain ⟨d2, a2, n2, cap2, hd2, rfl, -⟩ := hr.inv
                 have HR := Lib.hid hr
                 obtain ⟨c0, c1, c2, c3, -⟩ := cellsAt_of_block (HB.out.block b hbl) hc
                 have HD : Hid (x.kids.drop j = y :: x.kids.drop (j + 1)) := drop_of_getElem? HY.out
                 have HB1 : Hid (∀ X, Below w.heap.size w (wr.alloc X)) := fun X => HB.out.alloc HB.out.size X
                 clear hc hr
                 go_wp2_with fail
                 (with_reducible refine (IH.out d' hd _ [_, _, _, _] y (HR.out.mono ?_ ?_)).mono ?_)
                 · exact fun k hk => Nat.lt_of_lt_of_le hk (HB1.out _).size
                 · exact fun k hk => (HB1.out _).block k hk
                 rintro e w2 ⟨rfl, hb2⟩
                 have HB2 : Hid (Below w.heap.size w w2) := afterCall (HB1.out _) hb2
                 clear hb2
                 cases hq : exprB y with
                 | false =>
                   go_wp2
                   go_ret
                   exact ⟨ret_bool (by rw [HT.out, HTOP.out, HP.out, HD.out]; simp [hq]), HB2.out⟩
                 | true =>
                   go_wp2
                   have HP2 : Hid (x.kids.all exprB = (x.kids.drop (j + 1)).all exprB) := by
                     show x.kids.all exprB = (x.kids.drop (j + 1)).all exprB
                     rw [HP.out, HD.out]; simp [hq]
                   refine ⟨?_, by simp [intOf]; omega⟩
                   first
                     | exact ⟨j + 1, by omega, by go_num, HP2, HB2⟩
                     | ((repeat apply Exists.intro)
                        refine ⟨⟨j + 1, by omega, ?_, HP2, HB2⟩, rfl⟩
                        go_num)
               · obtain rfl : j = n' := by omega
                 have HE : Hid (x.kids.drop j = []) := List.drop_of_length_le (by rw [HL.out]; exact Nat.le_refl _)
                 go_wp2
                 go_ret
                 exact ⟨ret_bool (by rw [HT.out, HTOP.out, HP.out, HE.out]; rfl), HB.out⟩)
    have t1 : (x.kind == 1) = false := by simp [k1]
    by_cases k2 : x.kind = 11
    · have t2 : (x.kind == 11) = true := by simp [k2]
      have HC : Hid (exprTop x = (!decide (lo < 0) && !decide ((n' : Int) < lo) && !decide (hi < (n' : Int)) && decide (0 ≤ x.num) && decide (x.num ≤ 99) && x.name.toList.isEmpty)) := by
        show exprTop x = _
        rw [hTT, k2]
        simp [shapeOf, shapes]
      clear hTT k1 k2
      cases hem : x.name.toList.isEmpty with
      | true =>
        have hem2 : (!x.name.toList.isEmpty) = false := by rw [hem]; rfl
        go_enter Try.func80, Try.ntmps80
        go_wp2_with (first
          | (go_at_call 94; refine (HKC.out _).mono ?_; rintro e w' ⟨rfl, rfl⟩)
          | (go_at_call 51; refine (refIsName_any _ ws _).mono ?_; rintro e w' ⟨rfl, rfl⟩))
        all_goals first
          | (go_ret
             refine ⟨ret_bool ?_, by go_grown⟩
             rw [HT.out, HC.out]
             clear HT HC HEL HL IH HKC
             simp_all
             first | done | (intros; omega))
          | (have HTOP : Hid (exprTop x = true) := by
               show exprTop x = true
               rw [HC.out]
               clear HT HC HEL HL IH HKC
               simp_all
               first | done | (intros; omega)
             go_loopw [81] (fun v81 w' => ∃ j : Nat, j ≤ n' ∧ v81 = .int .i64 j ∧ Hid (x.kids.all exprB = (x.kids.drop j).all exprB) ∧ Hid (Below w.heap.size w w')) (fun v81 _ => n' - (intOf v81).toNat)
             case atStart => exact ⟨0, by omega, rfl, rfl, by show Below w.heap.size w _; go_grown⟩
             case round =>
               obtain ⟨j, hj, rfl, HP, HB⟩ := hrel
               by_cases hlt : j < n'
               · obtain ⟨y, hy⟩ : ∃ y, x.kids[j]? = some y := ⟨_, List.getElem?_eq_getElem (by rw [HL.out]; exact hlt)⟩
                 have HY := Lib.hid hy
                 clear hy
                 obtain ⟨b, off, cs, rfl, hbl, hc, hr⟩ := HEL.out j _ HY.out
                 obtain ⟨d2, a2, n2, cap2, hd2, rfl, -⟩ := hr.inv
                 have HR := Lib.hid hr
                 obtain ⟨c0, c1, c2, c3, -⟩ := cellsAt_of_block (HB.out.block b hbl) hc
                 have HD : Hid (x.kids.drop j = y :: x.kids.drop (j + 1)) := drop_of_getElem? HY.out
                 have HB1 : Hid (∀ X, Below w.heap.size w (wr.alloc X)) := fun X => HB.out.alloc HB.out.size X
                 clear hc hr
                 go_wp2_with fail
                 (with_reducible refine (IH.out d' hd _ [_, _, _, _] y (HR.out.mono ?_ ?_)).mono ?_)
                 · exact fun k hk => Nat.lt_of_lt_of_le hk (HB1.out _).size
                 · exact fun k hk => (HB1.out _).block k hk
                 rintro e w2 ⟨rfl, hb2⟩
                 have HB2 : Hid (Below w.heap.size w w2) := afterCall (HB1.out _) hb2
                 clear hb2
                 cases hq : exprB y with
                 | false =>
                   go_wp2
                   go_ret
                   exact ⟨ret_bool (by rw [HT.out, HTOP.out, HP.out, HD.out]; simp [hq]), HB2.out⟩
                 | true =>
                   go_wp2
                   have HP2 : Hid (x.kids.all exprB = (x.kids.drop (j + 1)).all exprB) := by
                     show x.kids.all exprB = (x.kids.drop (j + 1)).all exprB
                     rw [HP.out, HD.out]; simp [hq]
                   refine ⟨?_, by simp [intOf]; omega⟩
                   first
                     | exact ⟨j + 1, by omega, by go_num, HP2, HB2⟩
                     | ((repeat apply Exists.intro)
                        refine ⟨⟨j + 1, by omega, ?_, HP2, HB2⟩, rfl⟩
                        go_num)
               · obtain rfl : j = n' := by omega
                 have HE : Hid (x.kids.drop j = []) := List.drop_of_length_le (by rw [HL.out]; exact Nat.le_refl _)
                 go_wp2
                 go_ret
                 exact ⟨ret_bool (by rw [HT.out, HTOP.out, HP.out, HE.out]; rfl), HB.out⟩)
      | false =>
        have hem2 : (!x.name.toList.isEmpty) = true := by rw [hem]; rfl
        go_enter Try.func80, Try.ntmps80
        go_wp2_with (first
          | (go_at_call 94; refine (HKC.out _).mono ?_; rintro e w' ⟨rfl, rfl⟩)
          | (go_at_call 51; refine (refIsName_any _ ws _).mono ?_; rintro e w' ⟨rfl, rfl⟩))
        all_goals first
          | (go_ret
             refine ⟨ret_bool ?_, by go_grown⟩
             rw [HT.out, HC.out]
             clear HT HC HEL HL IH HKC
             simp_all
             first | done | (intros; omega))
          | (have HTOP : Hid (exprTop x = true) := by
               show exprTop x = true
               rw [HC.out]
               clear HT HC HEL HL IH HKC
               simp_all
               first | done | (intros; omega)
             go_loopw [81] (fun v81 w' => ∃ j : Nat, j ≤ n' ∧ v81 = .int .i64 j ∧ Hid (x.kids.all exprB = (x.kids.drop j).all exprB) ∧ Hid (Below w.heap.size w w')) (fun v81 _ => n' - (intOf v81).toNat)
             case atStart => exact ⟨0, by omega, rfl, rfl, by show Below w.heap.size w _; go_grown⟩
             case round =>
               obtain ⟨j, hj, rfl, HP, HB⟩ := hrel
               by_cases hlt : j < n'
               · obtain ⟨y, hy⟩ : ∃ y, x.kids[j]? = some y := ⟨_, List.getElem?_eq_getElem (by rw [HL.out]; exact hlt)⟩
                 have HY := Lib.hid hy
                 clear hy
                 obtain ⟨b, off, cs, rfl, hbl, hc, hr⟩ := HEL.out j _ HY.out
                 obtain ⟨d2, a2, n2, cap2, hd2, rfl, -⟩ := hr.inv
                 have HR := Lib.hid hr
                 obtain ⟨c0, c1, c2, c3, -⟩ := cellsAt_of_block (HB.out.block b hbl) hc
                 have HD : Hid (x.kids.drop j = y :: x.kids.drop (j + 1)) := drop_of_getElem? HY.out
                 have HB1 : Hid (∀ X, Below w.heap.size w (wr.alloc X)) := fun X => HB.out.alloc HB.out.size X
                 clear hc hr
                 go_wp2_with fail
                 (with_reducible refine (IH.out d' hd _ [_, _, _, _] y (HR.out.mono ?_ ?_)).mono ?_)
                 · exact fun k hk => Nat.lt_of_lt_of_le hk (HB1.out _).size
                 · exact fun k hk => (HB1.out _).block k hk
                 rintro e w2 ⟨rfl, hb2⟩
                 have HB2 : Hid (Below w.heap.size w w2) := afterCall (HB1.out _) hb2
                 clear hb2
                 cases hq : exprB y with
                 | false =>
                   go_wp2
                   go_ret
                   exact ⟨ret_bool (by rw [HT.out, HTOP.out, HP.out, HD.out]; simp [hq]), HB2.out⟩
                 | true =>
                   go_wp2
                   have HP2 : Hid (x.kids.all exprB = (x.kids.drop (j + 1)).all exprB) := by
                     show x.kids.all exprB = (x.kids.drop (j + 1)).all exprB
                     rw [HP.out, HD.out]; simp [hq]
                   refine ⟨?_, by simp [intOf]; omega⟩
                   first
                     | exact ⟨j + 1, by omega, by go_num, HP2, HB2⟩
                     | ((repeat apply Exists.intro)
                        refine ⟨⟨j + 1, by omega, ?_, HP2, HB2⟩, rfl⟩
                        go_num)
               · obtain rfl : j = n' := by omega
                 have HE : Hid (x.kids.drop j = []) := List.drop_of_length_le (by rw [HL.out]; exact Nat.le_refl _)
                 go_wp2
                 go_ret
                 exact ⟨ret_bool (by rw [HT.out, HTOP.out, HP.out, HE.out]; rfl), HB.out⟩)
    have t2 : (x.kind == 11) = false := by simp [k2]
    have hsn := shape_num x.kind k1 k2
    have hsm := shape_name x.kind
    rw [hsn] at hTT
    have hzero : (decide (0 ≤ x.num) && decide (x.num ≤ 0)) = (x.num == 0) := by rw [Bool.eq_iff_iff]; simp; omega
    cases hnm : (shapeOf x.kind).1.name with
    | false =>
      have HC : Hid (exprTop x = (!decide (lo < 0) && !decide ((n' : Int) < lo) && !decide (hi < (n' : Int)) && (x.num == 0) && x.name.toList.isEmpty)) := by
        show exprTop x = _
        rw [hTT, hnm, ← hzero]
        simp [Bool.and_assoc]
      rw [hnm] at hsm
      have hsm' : ((x.kind == 4) = false ∧ (x.kind == 5) = false ∧ (x.kind == 7) = false ∧ (x.kind == 10) = false) := by simp at hsm ⊢; omega
      obtain ⟨t4, t5, t7, t10⟩ := hsm'
      clear hTT k1 k2 hsn hsm hnm hzero
      cases hz0 : x.num == 0 with
      | true =>
        have hz1 : (x.num != 0) = false := by simp at hz0 ⊢; exact hz0
        cases hem : x.name.toList.isEmpty with
        | true =>
          have hem2 : (!x.name.toList.isEmpty) = false := by rw [hem]; rfl
          go_enter Try.func80, Try.ntmps80
          go_wp2_with (first
            | (go_at_call 94; refine (HKC.out _).mono ?_; rintro e w' ⟨rfl, rfl⟩)
            | (go_at_call 51; refine (refIsName_any _ ws _).mono ?_; rintro e w' ⟨rfl, rfl⟩))
          all_goals first
            | (go_ret
               refine ⟨ret_bool ?_, by go_grown⟩
               rw [HT.out, HC.out]
               clear HT HC HEL HL IH HKC
               simp_all
               first | done | (intros; omega))
            | (have HTOP : Hid (exprTop x = true) := by
                 show exprTop x = true
                 rw [HC.out]
                 clear HT HC HEL HL IH HKC
                 simp_all
                 first | done | (intros; omega)
               go_loopw [81] (fun v81 w' => ∃ j : Nat, j ≤ n' ∧ v81 = .int .i64 j ∧ Hid (x.kids.all exprB = (x.kids.drop j).all exprB) ∧ Hid (Below w.heap.size w w')) (fun v81 _ => n' - (intOf v81).toNat)
               case atStart => exact ⟨0, by omega, rfl, rfl, by show Below w.heap.size w _; go_grown⟩
               case round =>
                 obtain ⟨j, hj, rfl, HP, HB⟩ := hrel
                 by_cases hlt : j < n'
                 · obtain ⟨y, hy⟩ : ∃ y, x.kids[j]? = some y := ⟨_, List.getElem?_eq_getElem (by rw [HL.out]; exact hlt)⟩
                   have HY := Lib.hid hy
                   clear hy
                   obtain ⟨b, off, cs, rfl, hbl, hc, hr⟩ := HEL.out j _ HY.out
                   obtain ⟨d2, a2, n2, cap2, hd2, rfl, -⟩ := hr.inv
                   have HR := Lib.hid hr
                   obtain ⟨c0, c1, c2, c3, -⟩ := cellsAt_of_block (HB.out.block b hbl) hc
                   have HD : Hid (x.kids.drop j = y :: x.kids.drop (j + 1)) := drop_of_getElem? HY.out
                   have HB1 : Hid (∀ X, Below w.heap.size w (wr.alloc X)) := fun X => HB.out.alloc HB.out.size X
                   clear hc hr
                   go_wp2_with fail
                   (with_reducible refine (IH.out d' hd _ [_, _, _, _] y (HR.out.mono ?_ ?_)).mono ?_)
                   · exact fun k hk => Nat.lt_of_lt_of_le hk (HB1.out _).size
                   · exact fun k hk => (HB1.out _).block k hk
                   rintro e w2 ⟨rfl, hb2⟩
                   have HB2 : Hid (Below w.heap.size w w2) := afterCall (HB1.out _) hb2
                   clear hb2
                   cases hq : exprB y with
                   | false =>
                     go_wp2
                     go_ret
                     exact ⟨ret_bool (by rw [HT.out, HTOP.out, HP.out, HD.out]; simp [hq]), HB2.out⟩
                   | true =>
                     go_wp2
                     have HP2 : Hid (x.kids.all exprB = (x.kids.drop (j + 1)).all exprB) := by
                       show x.kids.all exprB = (x.kids.drop (j + 1)).all exprB
                       rw [HP.out, HD.out]; simp [hq]
                     refine ⟨?_, by simp [intOf]; omega⟩
                     first
                       | exact ⟨j + 1, by omega, by go_num, HP2, HB2⟩
                       | ((repeat apply Exists.intro)
                          refine ⟨⟨j + 1, by omega, ?_, HP2, HB2⟩, rfl⟩
                          go_num)
                 · obtain rfl : j = n' := by omega
                   have HE : Hid (x.kids.drop j = []) := List.drop_of_length_le (by rw [HL.out]; exact Nat.le_refl _)
                   go_wp2
                   go_ret
                   exact ⟨ret_bool (by rw [HT.out, HTOP.out, HP.out, HE.out]; rfl), HB.out⟩)
        | false =>
          have hem2 : (!x.name.toList.isEmpty) = true := by rw [hem]; rfl
          go_enter Try.func80, Try.ntmps80
          go_wp2_with (first
            | (go_at_call 94; refine (HKC.out _).mono ?_; rintro e w' ⟨rfl, rfl⟩)
            | (go_at_call 51; refine (refIsName_any _ ws _).mono ?_; rintro e w' ⟨rfl, rfl⟩))
          all_goals first
            | (go_ret
               refine ⟨ret_bool ?_, by go_grown⟩
               rw [HT.out, HC.out]
               clear HT HC HEL HL IH HKC
               simp_all
               first | done | (intros; omega))
            | (have HTOP : Hid (exprTop x = true) := by
                 show exprTop x = true
                 rw [HC.out]
                 clear HT HC HEL HL IH HKC
                 simp_all
                 first | done | (intros; omega)
               go_loopw [81] (fun v81 w' => ∃ j : Nat, j ≤ n' ∧ v81 = .int .i64 j ∧ Hid (x.kids.all exprB = (x.kids.drop j).all exprB) ∧ Hid (Below w.heap.size w w')) (fun v81 _ => n' - (intOf v81).toNat)
               case atStart => exact ⟨0, by omega, rfl, rfl, by show Below w.heap.size w _; go_grown⟩
               case round =>
                 obtain ⟨j, hj, rfl, HP, HB⟩ := hrel
                 by_cases hlt : j < n'
                 · obtain ⟨y, hy⟩ : ∃ y, x.kids[j]? = some y := ⟨_, List.getElem?_eq_getElem (by rw [HL.out]; exact hlt)⟩
                   have HY := Lib.hid hy
                   clear hy
                   obtain ⟨b, off, cs, rfl, hbl, hc, hr⟩ := HEL.out j _ HY.out
                   obtain ⟨d2, a2, n2, cap2, hd2, rfl, -⟩ := hr.inv
                   have HR := Lib.hid hr
                   obtain ⟨c0, c1, c2, c3, -⟩ := cellsAt_of_block (HB.out.block b hbl) hc
                   have HD : Hid (x.kids.drop j = y :: x.kids.drop (j + 1)) := drop_of_getElem? HY.out
                   have HB1 : Hid (∀ X, Below w.heap.size w (wr.alloc X)) := fun X => HB.out.alloc HB.out.size X
                   clear hc hr
                   go_wp2_with fail
                   (with_reducible refine (IH.out d' hd _ [_, _, _, _] y (HR.out.mono ?_ ?_)).mono ?_)
                   · exact fun k hk => Nat.lt_of_lt_of_le hk (HB1.out _).size
                   · exact fun k hk => (HB1.out _).block k hk
                   rintro e w2 ⟨rfl, hb2⟩
                   have HB2 : Hid (Below w.heap.size w w2) := afterCall (HB1.out _) hb2
                   clear hb2
                   cases hq : exprB y with
                   | false =>
                     go_wp2
                     go_ret
                     exact ⟨ret_bool (by rw [HT.out, HTOP.out, HP.out, HD.out]; simp [hq]), HB2.out⟩
                   | true =>
                     go_wp2
                     have HP2 : Hid (x.kids.all exprB = (x.kids.drop (j + 1)).all exprB) := by
                       show x.kids.all exprB = (x.kids.drop (j + 1)).all exprB
                       rw [HP.out, HD.out]; simp [hq]
                     refine ⟨?_, by simp [intOf]; omega⟩
                     first
                       | exact ⟨j + 1, by omega, by go_num, HP2, HB2⟩
                       | ((repeat apply Exists.intro)
                          refine ⟨⟨j + 1, by omega, ?_, HP2, HB2⟩, rfl⟩
                          go_num)
                 · obtain rfl : j = n' := by omega
                   have HE : Hid (x.kids.drop j = []) := List.drop_of_length_le (by rw [HL.out]; exact Nat.le_refl _)
                   go_wp2
                   go_ret
                   exact ⟨ret_bool (by rw [HT.out, HTOP.out, HP.out, HE.out]; rfl), HB.out⟩)
      | false =>
        have hz1 : (x.num != 0) = true := by simp at hz0 ⊢; exact hz0
        cases hem : x.name.toList.isEmpty with
        | true =>
          have hem2 : (!x.name.toList.isEmpty) = false := by rw [hem]; rfl
          go_enter Try.func80, Try.ntmps80
          go_wp2_with (first
            | (go_at_call 94; refine (HKC.out _).mono ?_; rintro e w' ⟨rfl, rfl⟩)
            | (go_at_call 51; refine (refIsName_any _ ws _).mono ?_; rintro e w' ⟨rfl, rfl⟩))
          all_goals first
            | (go_ret
               refine ⟨ret_bool ?_, by go_grown⟩
               rw [HT.out, HC.out]
               clear HT HC HEL HL IH HKC
               simp_all
               first | done | (intros; omega))
            | (have HTOP : Hid (exprTop x = true) := by
                 show exprTop x = true
                 rw [HC.out]
                 clear HT HC HEL HL IH HKC
                 simp_all
                 first | done | (intros; omega)
               go_loopw [81] (fun v81 w' => ∃ j : Nat, j ≤ n' ∧ v81 = .int .i64 j ∧ Hid (x.kids.all exprB = (x.kids.drop j).all exprB) ∧ Hid (Below w.heap.size w w')) (fun v81 _ => n' - (intOf v81).toNat)
               case atStart => exact ⟨0, by omega, rfl, rfl, by show Below w.heap.size w _; go_grown⟩
               case round =>
                 obtain ⟨j, hj, rfl, HP, HB⟩ := hrel
                 by_cases hlt : j < n'
                 · obtain ⟨y, hy⟩ : ∃ y, x.kids[j]? = some y := ⟨_, List.getElem?_eq_getElem (by rw [HL.out]; exact hlt)⟩
                   have HY := Lib.hid hy
                   clear hy
                   obtain ⟨b, off, cs, rfl, hbl, hc, hr⟩ := HEL.out j _ HY.out
                   obtain ⟨d2, a2, n2, cap2, hd2, rfl, -⟩ := hr.inv
                   have HR := Lib.hid hr
                   obtain ⟨c0, c1, c2, c3, -⟩ := cellsAt_of_block (HB.out.block b hbl) hc
                   have HD : Hid (x.kids.drop j = y :: x.kids.drop (j + 1)) := drop_of_getElem? HY.out
                   have HB1 : Hid (∀ X, Below w.heap.size w (wr.alloc X)) := fun X => HB.out.alloc HB.out.size X
                   clear hc hr
                   go_wp2_with fail
                   (with_reducible refine (IH.out d' hd _ [_, _, _, _] y (HR.out.mono ?_ ?_)).mono ?_)
                   · exact fun k hk => Nat.lt_of_lt_of_le hk (HB1.out _).size
                   · exact fun k hk => (HB1.out _).block k hk
                   rintro e w2 ⟨rfl, hb2⟩
                   have HB2 : Hid (Below w.heap.size w w2) := afterCall (HB1.out _) hb2
                   clear hb2
                   cases hq : exprB y with
                   | false =>
                     go_wp2
                     go_ret
                     exact ⟨ret_bool (by rw [HT.out, HTOP.out, HP.out, HD.out]; simp [hq]), HB2.out⟩
                   | true =>
                     go_wp2
                     have HP2 : Hid (x.kids.all exprB = (x.kids.drop (j + 1)).all exprB) := by
                       show x.kids.all exprB = (x.kids.drop (j + 1)).all exprB
                       rw [HP.out, HD.out]; simp [hq]
                     refine ⟨?_, by simp [intOf]; omega⟩
                     first
                       | exact ⟨j + 1, by omega, by go_num, HP2, HB2⟩
                       | ((repeat apply Exists.intro)
                          refine ⟨⟨j + 1, by omega, ?_, HP2, HB2⟩, rfl⟩
                          go_num)
                 · obtain rfl : j = n' := by omega
                   have HE : Hid (x.kids.drop j = []) := List.drop_of_length_le (by rw [HL.out]; exact Nat.le_refl _)
                   go_wp2
                   go_ret
                   exact ⟨ret_bool (by rw [HT.out, HTOP.out, HP.out, HE.out]; rfl), HB.out⟩)
        | false =>
          have hem2 : (!x.name.toList.isEmpty) = true := by rw [hem]; rfl
          go_enter Try.func80, Try.ntmps80
          go_wp2_with (first
            | (go_at_call 94; refine (HKC.out _).mono ?_; rintro e w' ⟨rfl, rfl⟩)
            | (go_at_call 51; refine (refIsName_any _ ws _).mono ?_; rintro e w' ⟨rfl, rfl⟩))
          all_goals first
            | (go_ret
               refine ⟨ret_bool ?_, by go_grown⟩
               rw [HT.out, HC.out]
               clear HT HC HEL HL IH HKC
               simp_all
               first | done | (intros; omega))
            | (have HTOP : Hid (exprTop x = true) := by
                 show exprTop x = true
                 rw [HC.out]
                 clear HT HC HEL HL IH HKC
                 simp_all
                 first | done | (intros; omega)
               go_loopw [81] (fun v81 w' => ∃ j : Nat, j ≤ n' ∧ v81 = .int .i64 j ∧ Hid (x.kids.all exprB = (x.kids.drop j).all exprB) ∧ Hid (Below w.heap.size w w')) (fun v81 _ => n' - (intOf v81).toNat)
               case atStart => exact ⟨0, by omega, rfl, rfl, by show Below w.heap.size w _; go_grown⟩
               case round =>
                 obtain ⟨j, hj, rfl, HP, HB⟩ := hrel
                 by_cases hlt : j < n'
                 · obtain ⟨y, hy⟩ : ∃ y, x.kids[j]? = some y := ⟨_, List.getElem?_eq_getElem (by rw [HL.out]; exact hlt)⟩
                   have HY := Lib.hid hy
                   clear hy
                   obtain ⟨b, off, cs, rfl, hbl, hc, hr⟩ := HEL.out j _ HY.out
                   obtain ⟨d2, a2, n2, cap2, hd2, rfl, -⟩ := hr.inv
                   have HR := Lib.hid hr
                   obtain ⟨c0, c1, c2, c3, -⟩ := cellsAt_of_block (HB.out.block b hbl) hc
                   have HD : Hid (x.kids.drop j = y :: x.kids.drop (j + 1)) := drop_of_getElem? HY.out
                   have HB1 : Hid (∀ X, Below w.heap.size w (wr.alloc X)) := fun X => HB.out.alloc HB.out.size X
                   clear hc hr
                   go_wp2_with fail
                   (with_reducible refine (IH.out d' hd _ [_, _, _, _] y (HR.out.mono ?_ ?_)).mono ?_)
                   · exact fun k hk => Nat.lt_of_lt_of_le hk (HB1.out _).size
                   · exact fun k hk => (HB1.out _).block k hk
                   rintro e w2 ⟨rfl, hb2⟩
                   have HB2 : Hid (Below w.heap.size w w2) := afterCall (HB1.out _) hb2
                   clear hb2
                   cases hq : exprB y with
                   | false =>
                     go_wp2
                     go_ret
                     exact ⟨ret_bool (by rw [HT.out, HTOP.out, HP.out, HD.out]; simp [hq]), HB2.out⟩
                   | true =>
                     go_wp2
                     have HP2 : Hid (x.kids.all exprB = (x.kids.drop (j + 1)).all exprB) := by
                       show x.kids.all exprB = (x.kids.drop (j + 1)).all exprB
                       rw [HP.out, HD.out]; simp [hq]
                     refine ⟨?_, by simp [intOf]; omega⟩
                     first
                       | exact ⟨j + 1, by omega, by go_num, HP2, HB2⟩
                       | ((repeat apply Exists.intro)
                          refine ⟨⟨j + 1, by omega, ?_, HP2, HB2⟩, rfl⟩
                          go_num)
                 · obtain rfl : j = n' := by omega
                   have HE : Hid (x.kids.drop j = []) := List.drop_of_length_le (by rw [HL.out]; exact Nat.le_refl _)
                   go_wp2
                   go_ret
                   exact ⟨ret_bool (by rw [HT.out, HTOP.out, HP.out, HE.out]; rfl), HB.out⟩)
    | true =>
      have HC : Hid (exprTop x = (!decide (lo < 0) && !decide ((n' : Int) < lo) && !decide (hi < (n' : Int)) && (x.num == 0) && isNameB x.name)) := by
        show exprTop x = _
        rw [hTT, hnm, ← hzero]
        simp [Bool.and_assoc]
      rw [hnm] at hsm
      have hsm' : x.kind = 4 ∨ x.kind = 5 ∨ x.kind = 7 ∨ x.kind = 10 := by simp at hsm; omega
      clear hTT k1 k2 hsn hsm hnm hzero
      rcases hsm' with h4 | h4 | h4 | h4
      · have t4 : (x.kind == 4) = true := by simp [h4]
        clear h4
        cases hz0 : x.num == 0 with
        | true =>
          have hz1 : (x.num != 0) = false := by simp at hz0 ⊢; exact hz0
          cases hnm : isNameB x.name with
          | true =>
            go_enter Try.func80, Try.ntmps80
            go_wp2_with (first
              | (go_at_call 94; refine (HKC.out _).mono ?_; rintro e w' ⟨rfl, rfl⟩)
              | (go_at_call 51; refine (refIsName_any _ ws _).mono ?_; rintro e w' ⟨rfl, rfl⟩))
            all_goals first
              | (go_ret
                 refine ⟨ret_bool ?_, by go_grown⟩
                 rw [HT.out, HC.out]
                 clear HT HC HEL HL IH HKC
                 simp_all
                 first | done | (intros; omega))
              | (have HTOP : Hid (exprTop x = true) := by
                   show exprTop x = true
                   rw [HC.out]
                   clear HT HC HEL HL IH HKC
                   simp_all
                   first | done | (intros; omega)
                 go_loopw [81] (fun v81 w' => ∃ j : Nat, j ≤ n' ∧ v81 = .int .i64 j ∧ Hid (x.kids.all exprB = (x.kids.drop j).all exprB) ∧ Hid (Below w.heap.size w w')) (fun v81 _ => n' - (intOf v81).toNat)
                 case atStart => exact ⟨0, by omega, rfl, rfl, by show Below w.heap.size w _; go_grown⟩
                 case round =>
                   obtain ⟨j, hj, rfl, HP, HB⟩ := hrel
                   by_cases hlt : j < n'
                   · obtain ⟨y, hy⟩ : ∃ y, x.kids[j]? = some y := ⟨_, List.getElem?_eq_getElem (by rw [HL.out]; exact hlt)⟩
                     have HY := Lib.hid hy
                     clear hy
                     obtain ⟨b, off, cs, rfl, hbl, hc, hr⟩ := HEL.out j _ HY.out
                     obtain ⟨d2, a2, n2, cap2, hd2, rfl, -⟩ := hr.inv
                     have HR := Lib.hid hr
                     obtain ⟨c0, c1, c2, c3, -⟩ := cellsAt_of_block (HB.out.block b hbl) hc
                     have HD : Hid (x.kids.drop j = y :: x.kids.drop (j + 1)) := drop_of_getElem? HY.out
                     have HB1 : Hid (∀ X, Below w.heap.size w (wr.alloc X)) := fun X => HB.out.alloc HB.out.size X
                     clear hc hr
                     go_wp2_with fail
                     (with_reducible refine (IH.out d' hd _ [_, _, _, _] y (HR.out.mono ?_ ?_)).mono ?_)
                     · exact fun k hk => Nat.lt_of_lt_of_le hk (HB1.out _).size
                     · exact fun k hk => (HB1.out _).block k hk
                     rintro e w2 ⟨rfl, hb2⟩
                     have HB2 : Hid (Below w.heap.size w w2) := afterCall (HB1.out _) hb2
                     clear hb2
                     cases hq : exprB y with
                     | false =>
                       go_wp2
                       go_ret
                       exact ⟨ret_bool (by rw [HT.out, HTOP.out, HP.out, HD.out]; simp [hq]), HB2.out⟩
                     | true =>
                       go_wp2
                       have HP2 : Hid (x.kids.all exprB = (x.kids.drop (j + 1)).all exprB) := by
                         show x.kids.all exprB = (x.kids.drop (j + 1)).all exprB
                         rw [HP.out, HD.out]; simp [hq]
                       refine ⟨?_, by simp [intOf]; omega⟩
                       first
                         | exact ⟨j + 1, by omega, by go_num, HP2, HB2⟩
                         | ((repeat apply Exists.intro)
                            refine ⟨⟨j + 1, by omega, ?_, HP2, HB2⟩, rfl⟩
                            go_num)
                   · obtain rfl : j = n' := by omega
                     have HE : Hid (x.kids.drop j = []) := List.drop_of_length_le (by rw [HL.out]; exact Nat.le_refl _)
                     go_wp2
                     go_ret
                     exact ⟨ret_bool (by rw [HT.out, HTOP.out, HP.out, HE.out]; rfl), HB.out⟩)
          | false =>
            go_enter Try.func80, Try.ntmps80
            go_wp2_with (first
              | (go_at_call 94; refine (HKC.out _).mono ?_; rintro e w' ⟨rfl, rfl⟩)
              | (go_at_call 51; refine (refIsName_any _ ws _).mono ?_; rintro e w' ⟨rfl, rfl⟩))
            all_goals first
              | (go_ret
                 refine ⟨ret_bool ?_, by go_grown⟩
                 rw [HT.out, HC.out]
                 clear HT HC HEL HL IH HKC
                 simp_all
                 first | done | (intros; omega))
              | (have HTOP : Hid (exprTop x = true) := by
                   show exprTop x = true
                   rw [HC.out]
                   clear HT HC HEL HL IH HKC
                   simp_all
                   first | done | (intros; omega)
                 go_loopw [81] (fun v81 w' => ∃ j : Nat, j ≤ n' ∧ v81 = .int .i64 j ∧ Hid (x.kids.all exprB = (x.kids.drop j).all exprB) ∧ Hid (Below w.heap.size w w')) (fun v81 _ => n' - (intOf v81).toNat)
                 case atStart => exact ⟨0, by omega, rfl, rfl, by show Below w.heap.size w _; go_grown⟩
                 case round =>
                   obtain ⟨j, hj, rfl, HP, HB⟩ := hrel
                   by_cases hlt : j < n'
                   · obtain ⟨y, hy⟩ : ∃ y, x.kids[j]? = some y := ⟨_, List.getElem?_eq_getElem (by rw [HL.out]; exact hlt)⟩
                     have HY := Lib.hid hy
                     clear hy
                     obtain ⟨b, off, cs, rfl, hbl, hc, hr⟩ := HEL.out j _ HY.out
                     obtain ⟨d2, a2, n2, cap2, hd2, rfl, -⟩ := hr.inv
                     have HR := Lib.hid hr
                     obtain ⟨c0, c1, c2, c3, -⟩ := cellsAt_of_block (HB.out.block b hbl) hc
                     have HD : Hid (x.kids.drop j = y :: x.kids.drop (j + 1)) := drop_of_getElem? HY.out
                     have HB1 : Hid (∀ X, Below w.heap.size w (wr.alloc X)) := fun X => HB.out.alloc HB.out.size X
                     clear hc hr
                     go_wp2_with fail
                     (with_reducible refine (IH.out d' hd _ [_, _, _, _] y (HR.out.mono ?_ ?_)).mono ?_)
                     · exact fun k hk => Nat.lt_of_lt_of_le hk (HB1.out _).size
                     · exact fun k hk => (HB1.out _).block k hk
                     rintro e w2 ⟨rfl, hb2⟩
                     have HB2 : Hid (Below w.heap.size w w2) := afterCall (HB1.out _) hb2
                     clear hb2
                     cases hq : exprB y with
                     | false =>
                       go_wp2
                       go_ret
                       exact ⟨ret_bool (by rw [HT.out, HTOP.out, HP.out, HD.out]; simp [hq]), HB2.out⟩
                     | true =>
                       go_wp2
                       have HP2 : Hid (x.kids.all exprB = (x.kids.drop (j + 1)).all exprB) := by
                         show x.kids.all exprB = (x.kids.drop (j + 1)).all exprB
                         rw [HP.out, HD.out]; simp [hq]
                       refine ⟨?_, by simp [intOf]; omega⟩
                       first
                         | exact ⟨j + 1, by omega, by go_num, HP2, HB2⟩
                         | ((repeat apply Exists.intro)
                            refine ⟨⟨j + 1, by omega, ?_, HP2, HB2⟩, rfl⟩
                            go_num)
                   · obtain rfl : j = n' := by omega
                     have HE : Hid (x.kids.drop j = []) := List.drop_of_length_le (by rw [HL.out]; exact Nat.le_refl _)
                     go_wp2
                     go_ret
                     exact ⟨ret_bool (by rw [HT.out, HTOP.out, HP.out, HE.out]; rfl), HB.out⟩)
        | false =>
          have hz1 : (x.num != 0) = true := by simp at hz0 ⊢; exact hz0
          go_enter Try.func80, Try.ntmps80
          go_wp2_with (first
            | (go_at_call 94; refine (HKC.out _).mono ?_; rintro e w' ⟨rfl, rfl⟩)
            | (go_at_call 51; refine (refIsName_any _ ws _).mono ?_; rintro e w' ⟨rfl, rfl⟩))
          all_goals first
            | (go_ret
               refine ⟨ret_bool ?_, by go_grown⟩
               rw [HT.out, HC.out]
               clear HT HC HEL HL IH HKC
               simp_all
               first | done | (intros; omega))
            | (have HTOP : Hid (exprTop x = true) := by
                 show exprTop x = true
                 rw [HC.out]
                 clear HT HC HEL HL IH HKC
                 simp_all
                 first | done | (intros; omega)
               go_loopw [81] (fun v81 w' => ∃ j : Nat, j ≤ n' ∧ v81 = .int .i64 j ∧ Hid (x.kids.all exprB = (x.kids.drop j).all exprB) ∧ Hid (Below w.heap.size w w')) (fun v81 _ => n' - (intOf v81).toNat)
               case atStart => exact ⟨0, by omega, rfl, rfl, by show Below w.heap.size w _; go_grown⟩
               case round =>
                 obtain ⟨j, hj, rfl, HP, HB⟩ := hrel
                 by_cases hlt : j < n'
                 · obtain ⟨y, hy⟩ : ∃ y, x.kids[j]? = some y := ⟨_, List.getElem?_eq_getElem (by rw [HL.out]; exact hlt)⟩
                   have HY := Lib.hid hy
                   clear hy
                   obtain ⟨b, off, cs, rfl, hbl, hc, hr⟩ := HEL.out j _ HY.out
                   obtain ⟨d2, a2, n2, cap2, hd2, rfl, -⟩ := hr.inv
                   have HR := Lib.hid hr
                   obtain ⟨c0, c1, c2, c3, -⟩ := cellsAt_of_block (HB.out.block b hbl) hc
                   have HD : Hid (x.kids.drop j = y :: x.kids.drop (j + 1)) := drop_of_getElem? HY.out
                   have HB1 : Hid (∀ X, Below w.heap.size w (wr.alloc X)) := fun X => HB.out.alloc HB.out.size X
                   clear hc hr
                   go_wp2_with fail
                   (with_reducible refine (IH.out d' hd _ [_, _, _, _] y (HR.out.mono ?_ ?_)).mono ?_)
                   · exact fun k hk => Nat.lt_of_lt_of_le hk (HB1.out _).size
                   · exact fun k hk => (HB1.out _).block k hk
                   rintro e w2 ⟨rfl, hb2⟩
                   have HB2 : Hid (Below w.heap.size w w2) := afterCall (HB1.out _) hb2
                   clear hb2
                   cases hq : exprB y with
                   | false =>
                     go_wp2
                     go_ret
                     exact ⟨ret_bool (by rw [HT.out, HTOP.out, HP.out, HD.out]; simp [hq]), HB2.out⟩
                   | true =>
                     go_wp2
                     have HP2 : Hid (x.kids.all exprB = (x.kids.drop (j + 1)).all exprB) := by
                       show x.kids.all exprB = (x.kids.drop (j + 1)).all exprB
                       rw [HP.out, HD.out]; simp [hq]
                     refine ⟨?_, by simp [intOf]; omega⟩
                     first
                       | exact ⟨j + 1, by omega, by go_num, HP2, HB2⟩
                       | ((repeat apply Exists.intro)
                          refine ⟨⟨j + 1, by omega, ?_, HP2, HB2⟩, rfl⟩
                          go_num)
                 · obtain rfl : j = n' := by omega
                   have HE : Hid (x.kids.drop j = []) := List.drop_of_length_le (by rw [HL.out]; exact Nat.le_refl _)
                   go_wp2
                   go_ret
                   exact ⟨ret_bool (by rw [HT.out, HTOP.out, HP.out, HE.out]; rfl), HB.out⟩)
      · have t4 : (x.kind == 4) = false := by simp [h4]
        have t5 : (x.kind == 5) = true := by simp [h4]
        clear h4
        cases hz0 : x.num == 0 with
        | true =>
          have hz1 : (x.num != 0) = false := by simp at hz0 ⊢; exact hz0
          cases hnm : isNameB x.name with
          | true =>
            go_enter Try.func80, Try.ntmps80
            go_wp2_with (first
              | (go_at_call 94; refine (HKC.out _).mono ?_; rintro e w' ⟨rfl, rfl⟩)
              | (go_at_call 51; refine (refIsName_any _ ws _).mono ?_; rintro e w' ⟨rfl, rfl⟩))
            all_goals first
              | (go_ret
                 refine ⟨ret_bool ?_, by go_grown⟩
                 rw [HT.out, HC.out]
                 clear HT HC HEL HL IH HKC
                 simp_all
                 first | done | (intros; omega))
              | (have HTOP : Hid (exprTop x = true) := by
                   show exprTop x = true
                   rw [HC.out]
                   clear HT HC HEL HL IH HKC
                   simp_all
                   first | done | (intros; omega)
                 go_loopw [81] (fun v81 w' => ∃ j : Nat, j ≤ n' ∧ v81 = .int .i64 j ∧ Hid (x.kids.all exprB = (x.kids.drop j).all exprB) ∧ Hid (Below w.heap.size w w')) (fun v81 _ => n' - (intOf v81).toNat)
                 case atStart => exact ⟨0, by omega, rfl, rfl, by show Below w.heap.size w _; go_grown⟩
                 case round =>
                   obtain ⟨j, hj, rfl, HP, HB⟩ := hrel
                   by_cases hlt : j < n'
                   · obtain ⟨y, hy⟩ : ∃ y, x.kids[j]? = some y := ⟨_, List.getElem?_eq_getElem (by rw [HL.out]; exact hlt)⟩
                     have HY := Lib.hid hy
                     clear hy
                     obtain ⟨b, off, cs, rfl, hbl, hc, hr⟩ := HEL.out j _ HY.out
                     obtain ⟨d2, a2, n2, cap2, hd2, rfl, -⟩ := hr.inv
                     have HR := Lib.hid hr
                     obtain ⟨c0, c1, c2, c3, -⟩ := cellsAt_of_block (HB.out.block b hbl) hc
                     have HD : Hid (x.kids.drop j = y :: x.kids.drop (j + 1)) := drop_of_getElem? HY.out
                     have HB1 : Hid (∀ X, Below w.heap.size w (wr.alloc X)) := fun X => HB.out.alloc HB.out.size X
                     clear hc hr
                     go_wp2_with fail
                     (with_reducible refine (IH.out d' hd _ [_, _, _, _] y (HR.out.mono ?_ ?_)).mono ?_)
                     · exact fun k hk => Nat.lt_of_lt_of_le hk (HB1.out _).size
                     · exact fun k hk => (HB1.out _).block k hk
                     rintro e w2 ⟨rfl, hb2⟩
                     have HB2 : Hid (Below w.heap.size w w2) := afterCall (HB1.out _) hb2
                     clear hb2
                     cases hq : exprB y with
                     | false =>
                       go_wp2
                       go_ret
                       exact ⟨ret_bool (by rw [HT.out, HTOP.out, HP.out, HD.out]; simp [hq]), HB2.out⟩
                     | true =>
                       go_wp2
                       have HP2 : Hid (x.kids.all exprB = (x.kids.drop (j + 1)).all exprB) := by
                         show x.kids.all exprB = (x.kids.drop (j + 1)).all exprB
                         rw [HP.out, HD.out]; simp [hq]
                       refine ⟨?_, by simp [intOf]; omega⟩
                       first
                         | exact ⟨j + 1, by omega, by go_num, HP2, HB2⟩
                         | ((repeat apply Exists.intro)
                            refine ⟨⟨j + 1, by omega, ?_, HP2, HB2⟩, rfl⟩
                            go_num)
                   · obtain rfl : j = n' := by omega
                     have HE : Hid (x.kids.drop j = []) := List.drop_of_length_le (by rw [HL.out]; exact Nat.le_refl _)
                     go_wp2
                     go_ret
                     exact ⟨ret_bool (by rw [HT.out, HTOP.out, HP.out, HE.out]; rfl), HB.out⟩)
          | false =>
            go_enter Try.func80, Try.ntmps80
            go_wp2_with (first
              | (go_at_call 94; refine (HKC.out _).mono ?_; rintro e w' ⟨rfl, rfl⟩)
              | (go_at_call 51; refine (refIsName_any _ ws _).mono ?_; rintro e w' ⟨rfl, rfl⟩))
            all_goals first
              | (go_ret
                 refine ⟨ret_bool ?_, by go_grown⟩
                 rw [HT.out, HC.out]
                 clear HT HC HEL HL IH HKC
                 simp_all
                 first | done | (intros; omega))
              | (have HTOP : Hid (exprTop x = true) := by
                   show exprTop x = true
                   rw [HC.out]
                   clear HT HC HEL HL IH HKC
                   simp_all
                   first | done | (intros; omega)
                 go_loopw [81] (fun v81 w' => ∃ j : Nat, j ≤ n' ∧ v81 = .int .i64 j ∧ Hid (x.kids.all exprB = (x.kids.drop j).all exprB) ∧ Hid (Below w.heap.size w w')) (fun v81 _ => n' - (intOf v81).toNat)
                 case atStart => exact ⟨0, by omega, rfl, rfl, by show Below w.heap.size w _; go_grown⟩
                 case round =>
                   obtain ⟨j, hj, rfl, HP, HB⟩ := hrel
                   by_cases hlt : j < n'
                   · obtain ⟨y, hy⟩ : ∃ y, x.kids[j]? = some y := ⟨_, List.getElem?_eq_getElem (by rw [HL.out]; exact hlt)⟩
                     have HY := Lib.hid hy
                     clear hy
                     obtain ⟨b, off, cs, rfl, hbl, hc, hr⟩ := HEL.out j _ HY.out
                     obtain ⟨d2, a2, n2, cap2, hd2, rfl, -⟩ := hr.inv
                     have HR := Lib.hid hr
                     obtain ⟨c0, c1, c2, c3, -⟩ := cellsAt_of_block (HB.out.block b hbl) hc
                     have HD : Hid (x.kids.drop j = y :: x.kids.drop (j + 1)) := drop_of_getElem? HY.out
                     have HB1 : Hid (∀ X, Below w.heap.size w (wr.alloc X)) := fun X => HB.out.alloc HB.out.size X
                     clear hc hr
                     go_wp2_with fail
                     (with_reducible refine (IH.out d' hd _ [_, _, _, _] y (HR.out.mono ?_ ?_)).mono ?_)
                     · exact fun k hk => Nat.lt_of_lt_of_le hk (HB1.out _).size
                     · exact fun k hk => (HB1.out _).block k hk
                     rintro e w2 ⟨rfl, hb2⟩
                     have HB2 : Hid (Below w.heap.size w w2) := afterCall (HB1.out _) hb2
                     clear hb2
                     cases hq : exprB y with
                     | false =>
                       go_wp2
                       go_ret
                       exact ⟨ret_bool (by rw [HT.out, HTOP.out, HP.out, HD.out]; simp [hq]), HB2.out⟩
                     | true =>
                       go_wp2
                       have HP2 : Hid (x.kids.all exprB = (x.kids.drop (j + 1)).all exprB) := by
                         show x.kids.all exprB = (x.kids.drop (j + 1)).all exprB
                         rw [HP.out, HD.out]; simp [hq]
                       refine ⟨?_, by simp [intOf]; omega⟩
                       first
                         | exact ⟨j + 1, by omega, by go_num, HP2, HB2⟩
                         | ((repeat apply Exists.intro)
                            refine ⟨⟨j + 1, by omega, ?_, HP2, HB2⟩, rfl⟩
                            go_num)
                   · obtain rfl : j = n' := by omega
                     have HE : Hid (x.kids.drop j = []) := List.drop_of_length_le (by rw [HL.out]; exact Nat.le_refl _)
                     go_wp2
                     go_ret
                     exact ⟨ret_bool (by rw [HT.out, HTOP.out, HP.out, HE.out]; rfl), HB.out⟩)
        | false =>
          have hz1 : (x.num != 0) = true := by simp at hz0 ⊢; exact hz0
          go_enter Try.func80, Try.ntmps80
          go_wp2_with (first
            | (go_at_call 94; refine (HKC.out _).mono ?_; rintro e w' ⟨rfl, rfl⟩)
            | (go_at_call 51; refine (refIsName_any _ ws _).mono ?_; rintro e w' ⟨rfl, rfl⟩))
          all_goals first
            | (go_ret
               refine ⟨ret_bool ?_, by go_grown⟩
               rw [HT.out, HC.out]
               clear HT HC HEL HL IH HKC
               simp_all
               first | done | (intros; omega))
            | (have HTOP : Hid (exprTop x = true) := by
                 show exprTop x = true
                 rw [HC.out]
                 clear HT HC HEL HL IH HKC
                 simp_all
                 first | done | (intros; omega)
               go_loopw [81] (fun v81 w' => ∃ j : Nat, j ≤ n' ∧ v81 = .int .i64 j ∧ Hid (x.kids.all exprB = (x.kids.drop j).all exprB) ∧ Hid (Below w.heap.size w w')) (fun v81 _ => n' - (intOf v81).toNat)
               case atStart => exact ⟨0, by omega, rfl, rfl, by show Below w.heap.size w _; go_grown⟩
               case round =>
                 obtain ⟨j, hj, rfl, HP, HB⟩ := hrel
                 by_cases hlt : j < n'
                 · obtain ⟨y, hy⟩ : ∃ y, x.kids[j]? = some y := ⟨_, List.getElem?_eq_getElem (by rw [HL.out]; exact hlt)⟩
                   have HY := Lib.hid hy
                   clear hy
                   obtain ⟨b, off, cs, rfl, hbl, hc, hr⟩ := HEL.out j _ HY.out
                   obtain ⟨d2, a2, n2, cap2, hd2, rfl, -⟩ := hr.inv
                   have HR := Lib.hid hr
                   obtain ⟨c0, c1, c2, c3, -⟩ := cellsAt_of_block (HB.out.block b hbl) hc
                   have HD : Hid (x.kids.drop j = y :: x.kids.drop (j + 1)) := drop_of_getElem? HY.out
                   have HB1 : Hid (∀ X, Below w.heap.size w (wr.alloc X)) := fun X => HB.out.alloc HB.out.size X
                   clear hc hr
                   go_wp2_with fail
                   (with_reducible refine (IH.out d' hd _ [_, _, _, _] y (HR.out.mono ?_ ?_)).mono ?_)
                   · exact fun k hk => Nat.lt_of_lt_of_le hk (HB1.out _).size
                   · exact fun k hk => (HB1.out _).block k hk
                   rintro e w2 ⟨rfl, hb2⟩
                   have HB2 : Hid (Below w.heap.size w w2) := afterCall (HB1.out _) hb2
                   clear hb2
                   cases hq : exprB y with
                   | false =>
                     go_wp2
                     go_ret
                     exact ⟨ret_bool (by rw [HT.out, HTOP.out, HP.out, HD.out]; simp [hq]), HB2.out⟩
                   | true =>
                     go_wp2
                     have HP2 : Hid (x.kids.all exprB = (x.kids.drop (j + 1)).all exprB) := by
                       show x.kids.all exprB = (x.kids.drop (j + 1)).all exprB
                       rw [HP.out, HD.out]; simp [hq]
                     refine ⟨?_, by simp [intOf]; omega⟩
                     first
                       | exact ⟨j + 1, by omega, by go_num, HP2, HB2⟩
                       | ((repeat apply Exists.intro)
                          refine ⟨⟨j + 1, by omega, ?_, HP2, HB2⟩, rfl⟩
                          go_num)
                 · obtain rfl : j = n' := by omega
                   have HE : Hid (x.kids.drop j = []) := List.drop_of_length_le (by rw [HL.out]; exact Nat.le_refl _)
                   go_wp2
                   go_ret
                   exact ⟨ret_bool (by rw [HT.out, HTOP.out, HP.out, HE.out]; rfl), HB.out⟩)
      · have t4 : (x.kind == 4) = false := by simp [h4]
        have t5 : (x.kind == 5) = false := by simp [h4]
        have t7 : (x.kind == 7) = true := by simp [h4]
        clear h4
        cases hz0 : x.num == 0 with
        | true =>
          have hz1 : (x.num != 0) = false := by simp at hz0 ⊢; exact hz0
          cases hnm : isNameB x.name with
          | true =>
            go_enter Try.func80, Try.ntmps80
            go_wp2_with (first
              | (go_at_call 94; refine (HKC.out _).mono ?_; rintro e w' ⟨rfl, rfl⟩)
              | (go_at_call 51; refine (refIsName_any _ ws _).mono ?_; rintro e w' ⟨rfl, rfl⟩))
            all_goals first
              | (go_ret
                 refine ⟨ret_bool ?_, by go_grown⟩
                 rw [HT.out, HC.out]
                 clear HT HC HEL HL IH HKC
                 simp_all
                 first | done | (intros; omega))
              | (have HTOP : Hid (exprTop x = true) := by
                   show exprTop x = true
                   rw [HC.out]
                   clear HT HC HEL HL IH HKC
                   simp_all
                   first | done | (intros; omega)
                 go_loopw [81] (fun v81 w' => ∃ j : Nat, j ≤ n' ∧ v81 = .int .i64 j ∧ Hid (x.kids.all exprB = (x.kids.drop j).all exprB) ∧ Hid (Below w.heap.size w w')) (fun v81 _ => n' - (intOf v81).toNat)
                 case atStart => exact ⟨0, by omega, rfl, rfl, by show Below w.heap.size w _; go_grown⟩
                 case round =>
                   obtain ⟨j, hj, rfl, HP, HB⟩ := hrel
                   by_cases hlt : j < n'
                   · obtain ⟨y, hy⟩ : ∃ y, x.kids[j]? = some y := ⟨_, List.getElem?_eq_getElem (by rw [HL.out]; exact hlt)⟩
                     have HY := Lib.hid hy
                     clear hy
                     obtain ⟨b, off, cs, rfl, hbl, hc, hr⟩ := HEL.out j _ HY.out
                     obtain ⟨d2, a2, n2, cap2, hd2, rfl, -⟩ := hr.inv
                     have HR := Lib.hid hr
                     obtain ⟨c0, c1, c2, c3, -⟩ := cellsAt_of_block (HB.out.block b hbl) hc
                     have HD : Hid (x.kids.drop j = y :: x.kids.drop (j + 1)) := drop_of_getElem? HY.out
                     have HB1 : Hid (∀ X, Below w.heap.size w (wr.alloc X)) := fun X => HB.out.alloc HB.out.size X
                     clear hc hr
                     go_wp2_with fail
                     (with_reducible refine (IH.out d' hd _ [_, _, _, _] y (HR.out.mono ?_ ?_)).mono ?_)
                     · exact fun k hk => Nat.lt_of_lt_of_le hk (HB1.out _).size
                     · exact fun k hk => (HB1.out _).block k hk
                     rintro e w2 ⟨rfl, hb2⟩
                     have HB2 : Hid (Below w.heap.size w w2) := afterCall (HB1.out _) hb2
                     clear hb2
                     cases hq : exprB y with
                     | false =>
                       go_wp2
                       go_ret
                       exact ⟨ret_bool (by rw [HT.out, HTOP.out, HP.out, HD.out]; simp [hq]), HB2.out⟩
                     | true =>
                       go_wp2
                       have HP2 : Hid (x.kids.all exprB = (x.kids.drop (j + 1)).all exprB) := by
                         show x.kids.all exprB = (x.kids.drop (j + 1)).all exprB
                         rw [HP.out, HD.out]; simp [hq]
                       refine ⟨?_, by simp [intOf]; omega⟩
                       first
                         | exact ⟨j + 1, by omega, by go_num, HP2, HB2⟩
                         | ((repeat apply Exists.intro)
                            refine ⟨⟨j + 1, by omega, ?_, HP2, HB2⟩, rfl⟩
                            go_num)
                   · obtain rfl : j = n' := by omega
                     have HE : Hid (x.kids.drop j = []) := List.drop_of_length_le (by rw [HL.out]; exact Nat.le_refl _)
                     go_wp2
                     go_ret
                     exact ⟨ret_bool (by rw [HT.out, HTOP.out, HP.out, HE.out]; rfl), HB.out⟩)
          | false =>
            go_enter Try.func80, Try.ntmps80
            go_wp2_with (first
              | (go_at_call 94; refine (HKC.out _).mono ?_; rintro e w' ⟨rfl, rfl⟩)
              | (go_at_call 51; refine (refIsName_any _ ws _).mono ?_; rintro e w' ⟨rfl, rfl⟩))
            all_goals first
              | (go_ret
                 refine ⟨ret_bool ?_, by go_grown⟩
                 rw [HT.out, HC.out]
                 clear HT HC HEL HL IH HKC
                 simp_all
                 first | done | (intros; omega))
              | (have HTOP : Hid (exprTop x = true) := by
                   show exprTop x = true
                   rw [HC.out]
                   clear HT HC HEL HL IH HKC
                   simp_all
                   first | done | (intros; omega)
                 go_loopw [81] (fun v81 w' => ∃ j : Nat, j ≤ n' ∧ v81 = .int .i64 j ∧ Hid (x.kids.all exprB = (x.kids.drop j).all exprB) ∧ Hid (Below w.heap.size w w')) (fun v81 _ => n' - (intOf v81).toNat)
                 case atStart => exact ⟨0, by omega, rfl, rfl, by show Below w.heap.size w _; go_grown⟩
                 case round =>
                   obtain ⟨j, hj, rfl, HP, HB⟩ := hrel
                   by_cases hlt : j < n'
                   · obtain ⟨y, hy⟩ : ∃ y, x.kids[j]? = some y := ⟨_, List.getElem?_eq_getElem (by rw [HL.out]; exact hlt)⟩
                     have HY := Lib.hid hy
                     clear hy
                     obtain ⟨b, off, cs, rfl, hbl, hc, hr⟩ := HEL.out j _ HY.out
                     obtain ⟨d2, a2, n2, cap2, hd2, rfl, -⟩ := hr.inv
                     have HR := Lib.hid hr
                     obtain ⟨c0, c1, c2, c3, -⟩ := cellsAt_of_block (HB.out.block b hbl) hc
                     have HD : Hid (x.kids.drop j = y :: x.kids.drop (j + 1)) := drop_of_getElem? HY.out
                     have HB1 : Hid (∀ X, Below w.heap.size w (wr.alloc X)) := fun X => HB.out.alloc HB.out.size X
                     clear hc hr
                     go_wp2_with fail
                     (with_reducible refine (IH.out d' hd _ [_, _, _, _] y (HR.out.mono ?_ ?_)).mono ?_)
                     · exact fun k hk => Nat.lt_of_lt_of_le hk (HB1.out _).size
                     · exact fun k hk => (HB1.out _).block k hk
                     rintro e w2 ⟨rfl, hb2⟩
                     have HB2 : Hid (Below w.heap.size w w2) := afterCall (HB1.out _) hb2
                     clear hb2
                     cases hq : exprB y with
                     | false =>
                       go_wp2
                       go_ret
                       exact ⟨ret_bool (by rw [HT.out, HTOP.out, HP.out, HD.out]; simp [hq]), HB2.out⟩
                     | true =>
                       go_wp2
                       have HP2 : Hid (x.kids.all exprB = (x.kids.drop (j + 1)).all exprB) := by
                         show x.kids.all exprB = (x.kids.drop (j + 1)).all exprB
                         rw [HP.out, HD.out]; simp [hq]
                       refine ⟨?_, by simp [intOf]; omega⟩
                       first
                         | exact ⟨j + 1, by omega, by go_num, HP2, HB2⟩
                         | ((repeat apply Exists.intro)
                            refine ⟨⟨j + 1, by omega, ?_, HP2, HB2⟩, rfl⟩
                            go_num)
                   · obtain rfl : j = n' := by omega
                     have HE : Hid (x.kids.drop j = []) := List.drop_of_length_le (by rw [HL.out]; exact Nat.le_refl _)
                     go_wp2
                     go_ret
                     exact ⟨ret_bool (by rw [HT.out, HTOP.out, HP.out, HE.out]; rfl), HB.out⟩)
        | false =>
          have hz1 : (x.num != 0) = true := by simp at hz0 ⊢; exact hz0
          go_enter Try.func80, Try.ntmps80
          go_wp2_with (first
            | (go_at_call 94; refine (HKC.out _).mono ?_; rintro e w' ⟨rfl, rfl⟩)
            | (go_at_call 51; refine (refIsName_any _ ws _).mono ?_; rintro e w' ⟨rfl, rfl⟩))
          all_goals first
            | (go_ret
               refine ⟨ret_bool ?_, by go_grown⟩
               rw [HT.out, HC.out]
               clear HT HC HEL HL IH HKC
               simp_all
               first | done | (intros; omega))
            | (have HTOP : Hid (exprTop x = true) := by
                 show exprTop x = true
                 rw [HC.out]
                 clear HT HC HEL HL IH HKC
                 simp_all
                 first | done | (intros; omega)
               go_loopw [81] (fun v81 w' => ∃ j : Nat, j ≤ n' ∧ v81 = .int .i64 j ∧ Hid (x.kids.all exprB = (x.kids.drop j).all exprB) ∧ Hid (Below w.heap.size w w')) (fun v81 _ => n' - (intOf v81).toNat)
               case atStart => exact ⟨0, by omega, rfl, rfl, by show Below w.heap.size w _; go_grown⟩
               case round =>
                 obtain ⟨j, hj, rfl, HP, HB⟩ := hrel
                 by_cases hlt : j < n'
                 · obtain ⟨y, hy⟩ : ∃ y, x.kids[j]? = some y := ⟨_, List.getElem?_eq_getElem (by rw [HL.out]; exact hlt)⟩
                   have HY := Lib.hid hy
                   clear hy
                   obtain ⟨b, off, cs, rfl, hbl, hc, hr⟩ := HEL.out j _ HY.out
                   obtain ⟨d2, a2, n2, cap2, hd2, rfl, -⟩ := hr.inv
                   have HR := Lib.hid hr
                   obtain ⟨c0, c1, c2, c3, -⟩ := cellsAt_of_block (HB.out.block b hbl) hc
                   have HD : Hid (x.kids.drop j = y :: x.kids.drop (j + 1)) := drop_of_getElem? HY.out
                   have HB1 : Hid (∀ X, Below w.heap.size w (wr.alloc X)) := fun X => HB.out.alloc HB.out.size X
                   clear hc hr
                   go_wp2_with fail
                   (with_reducible refine (IH.out d' hd _ [_, _, _, _] y (HR.out.mono ?_ ?_)).mono ?_)
                   · exact fun k hk => Nat.lt_of_lt_of_le hk (HB1.out _).size
                   · exact fun k hk => (HB1.out _).block k hk
                   rintro e w2 ⟨rfl, hb2⟩
                   have HB2 : Hid (Below w.heap.size w w2) := afterCall (HB1.out _) hb2
                   clear hb2
                   cases hq : exprB y with
                   | false =>
                     go_wp2
                     go_ret
                     exact ⟨ret_bool (by rw [HT.out, HTOP.out, HP.out, HD.out]; simp [hq]), HB2.out⟩
                   | true =>
                     go_wp2
                     have HP2 : Hid (x.kids.all exprB = (x.kids.drop (j + 1)).all exprB) := by
                       show x.kids.all exprB = (x.kids.drop (j + 1)).all exprB
                       rw [HP.out, HD.out]; simp [hq]
                     refine ⟨?_, by simp [intOf]; omega⟩
                     first
                       | exact ⟨j + 1, by omega, by go_num, HP2, HB2⟩
                       | ((repeat apply Exists.intro)
                          refine ⟨⟨j + 1, by omega, ?_, HP2, HB2⟩, rfl⟩
                          go_num)
                 · obtain rfl : j = n' := by omega
                   have HE : Hid (x.kids.drop j = []) := List.drop_of_length_le (by rw [HL.out]; exact Nat.le_refl _)
                   go_wp2
                   go_ret
                   exact ⟨ret_bool (by rw [HT.out, HTOP.out, HP.out, HE.out]; rfl), HB.out⟩)
      · have t4 : (x.kind == 4) = false := by simp [h4]
        have t5 : (x.kind == 5) = false := by simp [h4]
        have t7 : (x.kind == 7) = false := by simp [h4]
        have t10 : (x.kind == 10) = true := by simp [h4]
        clear h4
        cases hz0 : x.num == 0 with
        | true =>
          have hz1 : (x.num != 0) = false := by simp at hz0 ⊢; exact hz0
          cases hnm : isNameB x.name with
          | true =>
            go_enter Try.func80, Try.ntmps80
            go_wp2_with (first
              | (go_at_call 94; refine (HKC.out _).mono ?_; rintro e w' ⟨rfl, rfl⟩)
              | (go_at_call 51; refine (refIsName_any _ ws _).mono ?_; rintro e w' ⟨rfl, rfl⟩))
            all_goals first
              | (go_ret
                 refine ⟨ret_bool ?_, by go_grown⟩
                 rw [HT.out, HC.out]
                 clear HT HC HEL HL IH HKC
                 simp_all
                 first | done | (intros; omega))
              | (have HTOP : Hid (exprTop x = true) := by
                   show exprTop x = true
                   rw [HC.out]
                   clear HT HC HEL HL IH HKC
                   simp_all
                   first | done | (intros; omega)
                 go_loopw [81] (fun v81 w' => ∃ j : Nat, j ≤ n' ∧ v81 = .int .i64 j ∧ Hid (x.kids.all exprB = (x.kids.drop j).all exprB) ∧ Hid (Below w.heap.size w w')) (fun v81 _ => n' - (intOf v81).toNat)
                 case atStart => exact ⟨0, by omega, rfl, rfl, by show Below w.heap.size w _; go_grown⟩
                 case round =>
                   obtain ⟨j, hj, rfl, HP, HB⟩ := hrel
                   by_cases hlt : j < n'
                   · obtain ⟨y, hy⟩ : ∃ y, x.kids[j]? = some y := ⟨_, List.getElem?_eq_getElem (by rw [HL.out]; exact hlt)⟩
                     have HY := Lib.hid hy
                     clear hy
                     obtain ⟨b, off, cs, rfl, hbl, hc, hr⟩ := HEL.out j _ HY.out
                     obtain ⟨d2, a2, n2, cap2, hd2, rfl, -⟩ := hr.inv
                     have HR := Lib.hid hr
                     obtain ⟨c0, c1, c2, c3, -⟩ := cellsAt_of_block (HB.out.block b hbl) hc
                     have HD : Hid (x.kids.drop j = y :: x.kids.drop (j + 1)) := drop_of_getElem? HY.out
                     have HB1 : Hid (∀ X, Below w.heap.size w (wr.alloc X)) := fun X => HB.out.alloc HB.out.size X
                     clear hc hr
                     go_wp2_with fail
                     (with_reducible refine (IH.out d' hd _ [_, _, _, _] y (HR.out.mono ?_ ?_)).mono ?_)
                     · exact fun k hk => Nat.lt_of_lt_of_le hk (HB1.out _).size
                     · exact fun k hk => (HB1.out _).block k hk
                     rintro e w2 ⟨rfl, hb2⟩
                     have HB2 : Hid (Below w.heap.size w w2) := afterCall (HB1.out _) hb2
                     clear hb2
                     cases hq : exprB y with
                     | false =>
                       go_wp2
                       go_ret
                       exact ⟨ret_bool (by rw [HT.out, HTOP.out, HP.out, HD.out]; simp [hq]), HB2.out⟩
                     | true =>
                       go_wp2
                       have HP2 : Hid (x.kids.all exprB = (x.kids.drop (j + 1)).all exprB) := by
                         show x.kids.all exprB = (x.kids.drop (j + 1)).all exprB
                         rw [HP.out, HD.out]; simp [hq]
                       refine ⟨?_, by simp [intOf]; omega⟩
                       first
                         | exact ⟨j + 1, by omega, by go_num, HP2, HB2⟩
                         | ((repeat apply Exists.intro)
                            refine ⟨⟨j + 1, by omega, ?_, HP2, HB2⟩, rfl⟩
                            go_num)
                   · obtain rfl : j = n' := by omega
                     have HE : Hid (x.kids.drop j = []) := List.drop_of_length_le (by rw [HL.out]; exact Nat.le_refl _)
                     go_wp2
                     go_ret
                     exact ⟨ret_bool (by rw [HT.out, HTOP.out, HP.out, HE.out]; rfl), HB.out⟩)
          | false =>
            go_enter Try.func80, Try.ntmps80
            go_wp2_with (first
              | (go_at_call 94; refine (HKC.out _).mono ?_; rintro e w' ⟨rfl, rfl⟩)
              | (go_at_call 51; refine (refIsName_any _ ws _).mono ?_; rintro e w' ⟨rfl, rfl⟩))
            all_goals first
              | (go_ret
                 refine ⟨ret_bool ?_, by go_grown⟩
                 rw [HT.out, HC.out]
                 clear HT HC HEL HL IH HKC
                 simp_all
                 first | done | (intros; omega))
              | (have HTOP : Hid (exprTop x = true) := by
                   show exprTop x = true
                   rw [HC.out]
                   clear HT HC HEL HL IH HKC
                   simp_all
                   first | done | (intros; omega)
                 go_loopw [81] (fun v81 w' => ∃ j : Nat, j ≤ n' ∧ v81 = .int .i64 j ∧ Hid (x.kids.all exprB = (x.kids.drop j).all exprB) ∧ Hid (Below w.heap.size w w')) (fun v81 _ => n' - (intOf v81).toNat)
                 case atStart => exact ⟨0, by omega, rfl, rfl, by show Below w.heap.size w _; go_grown⟩
                 case round =>
                   obtain ⟨j, hj, rfl, HP, HB⟩ := hrel
                   by_cases hlt : j < n'
                   · obtain ⟨y, hy⟩ : ∃ y, x.kids[j]? = some y := ⟨_, List.getElem?_eq_getElem (by rw [HL.out]; exact hlt)⟩
                     have HY := Lib.hid hy
                     clear hy
                     obtain ⟨b, off, cs, rfl, hbl, hc, hr⟩ := HEL.out j _ HY.out
                     obtain ⟨d2, a2, n2, cap2, hd2, rfl, -⟩ := hr.inv
                     have HR := Lib.hid hr
                     obtain ⟨c0, c1, c2, c3, -⟩ := cellsAt_of_block (HB.out.block b hbl) hc
                     have HD : Hid (x.kids.drop j = y :: x.kids.drop (j + 1)) := drop_of_getElem? HY.out
                     have HB1 : Hid (∀ X, Below w.heap.size w (wr.alloc X)) := fun X => HB.out.alloc HB.out.size X
                     clear hc hr
                     go_wp2_with fail
                     (with_reducible refine (IH.out d' hd _ [_, _, _, _] y (HR.out.mono ?_ ?_)).mono ?_)
                     · exact fun k hk => Nat.lt_of_lt_of_le hk (HB1.out _).size
                     · exact fun k hk => (HB1.out _).block k hk
                     rintro e w2 ⟨rfl, hb2⟩
                     have HB2 : Hid (Below w.heap.size w w2) := afterCall (HB1.out _) hb2
                     clear hb2
                     cases hq : exprB y with
                     | false =>
                       go_wp2
                       go_ret
                       exact ⟨ret_bool (by rw [HT.out, HTOP.out, HP.out, HD.out]; simp [hq]), HB2.out⟩
                     | true =>
                       go_wp2
                       have HP2 : Hid (x.kids.all exprB = (x.kids.drop (j + 1)).all exprB) := by
                         show x.kids.all exprB = (x.kids.drop (j + 1)).all exprB
                         rw [HP.out, HD.out]; simp [hq]
                       refine ⟨?_, by simp [intOf]; omega⟩
                       first
                         | exact ⟨j + 1, by omega, by go_num, HP2, HB2⟩
                         | ((repeat apply Exists.intro)
                            refine ⟨⟨j + 1, by omega, ?_, HP2, HB2⟩, rfl⟩
                            go_num)
                   · obtain rfl : j = n' := by omega
                     have HE : Hid (x.kids.drop j = []) := List.drop_of_length_le (by rw [HL.out]; exact Nat.le_refl _)
                     go_wp2
                     go_ret
                     exact ⟨ret_bool (by rw [HT.out, HTOP.out, HP.out, HE.out]; rfl), HB.out⟩)
        | false =>
          have hz1 : (x.num != 0) = true := by simp at hz0 ⊢; exact hz0
          go_enter Try.func80, Try.ntmps80
          go_wp2_with (first
            | (go_at_call 94; refine (HKC.out _).mono ?_; rintro e w' ⟨rfl, rfl⟩)
            | (go_at_call 51; refine (refIsName_any _ ws _).mono ?_; rintro e w' ⟨rfl, rfl⟩))
          all_goals first
            | (go_ret
               refine ⟨ret_bool ?_, by go_grown⟩
               rw [HT.out, HC.out]
               clear HT HC HEL HL IH HKC
               simp_all
               first | done | (intros; omega))
            | (have HTOP : Hid (exprTop x = true) := by
                 show exprTop x = true
                 rw [HC.out]
                 clear HT HC HEL HL IH HKC
                 simp_all
                 first | done | (intros; omega)
               go_loopw [81] (fun v81 w' => ∃ j : Nat, j ≤ n' ∧ v81 = .int .i64 j ∧ Hid (x.kids.all exprB = (x.kids.drop j).all exprB) ∧ Hid (Below w.heap.size w w')) (fun v81 _ => n' - (intOf v81).toNat)
               case atStart => exact ⟨0, by omega, rfl, rfl, by show Below w.heap.size w _; go_grown⟩
               case round =>
                 obtain ⟨j, hj, rfl, HP, HB⟩ := hrel
                 by_cases hlt : j < n'
                 · obtain ⟨y, hy⟩ : ∃ y, x.kids[j]? = some y := ⟨_, List.getElem?_eq_getElem (by rw [HL.out]; exact hlt)⟩
                   have HY := Lib.hid hy
                   clear hy
                   obtain ⟨b, off, cs, rfl, hbl, hc, hr⟩ := HEL.out j _ HY.out
                   obtain ⟨d2, a2, n2, cap2, hd2, rfl, -⟩ := hr.inv
                   have HR := Lib.hid hr
                   obtain ⟨c0, c1, c2, c3, -⟩ := cellsAt_of_block (HB.out.block b hbl) hc
                   have HD : Hid (x.kids.drop j = y :: x.kids.drop (j + 1)) := drop_of_getElem? HY.out
                   have HB1 : Hid (∀ X, Below w.heap.size w (wr.alloc X)) := fun X => HB.out.alloc HB.out.size X
                   clear hc hr
                   go_wp2_with fail
                   (with_reducible refine (IH.out d' hd _ [_, _, _, _] y (HR.out.mono ?_ ?_)).mono ?_)
                   · exact fun k hk => Nat.lt_of_lt_of_le hk (HB1.out _).size
                   · exact fun k hk => (HB1.out _).block k hk
                   rintro e w2 ⟨rfl, hb2⟩
                   have HB2 : Hid (Below w.heap.size w w2) := afterCall (HB1.out _) hb2
                   clear hb2
                   cases hq : exprB y with
                   | false =>
                     go_wp2
                     go_ret
                     exact ⟨ret_bool (by rw [HT.out, HTOP.out, HP.out, HD.out]; simp [hq]), HB2.out⟩
                   | true =>
                     go_wp2
                     have HP2 : Hid (x.kids.all exprB = (x.kids.drop (j + 1)).all exprB) := by
                       show x.kids.all exprB = (x.kids.drop (j + 1)).all exprB
                       rw [HP.out, HD.out]; simp [hq]
                     refine ⟨?_, by simp [intOf]; omega⟩
                     first
                       | exact ⟨j + 1, by omega, by go_num, HP2, HB2⟩
                       | ((repeat apply Exists.intro)
                          refine ⟨⟨j + 1, by omega, ?_, HP2, HB2⟩, rfl⟩
                          go_num)
                 · obtain rfl : j = n' := by omega
                   have HE : Hid (x.kids.drop j = []) := List.drop_of_length_le (by rw [HL.out]; exact Nat.le_refl _)
                   go_wp2
                   go_ret
                   exact ⟨ret_bool (by rw [HT.out, HTOP.out, HP.out, HE.out]; rfl), HB.out⟩)
end Go.Proofs.Ytjciafpihdbedaa
end
section
/- The reference's statements: shape and mayStmts. -/
namespace Go.Proofs.Ytjciafpihdbedaa
open Go.RowKit

theorem stmts_any (d : Nat) (w : World) (v : Value) (l : List Stmt) (hM : HasMax w) (h : RStmts d w (· < w.heap.size) v l) :
    Calls Try.prog 41 #[v] w fun e w' => e = .returned (.bool (l.all stmtB)) ∧ Below w.heap.size w w' := stmts_of d (stmt_any d) w v l hM h

theorem rexprs_1 (w : World) : Calls Try.prog 93 #[.int .i64 1] w fun e w' => e = .returned (.tuple #[.int .i64 (exprsOf 1).1, .int .i64 (exprsOf 1).2]) ∧ w = w' := by
  go_enter Try.func93, Try.ntmps93
  go_wp2
  go_ret2
  exact ⟨rfl, rfl⟩
theorem rexprs_2 (w : World) : Calls Try.prog 93 #[.int .i64 2] w fun e w' => e = .returned (.tuple #[.int .i64 (exprsOf 2).1, .int .i64 (exprsOf 2).2]) ∧ w = w' := by
  go_enter Try.func93, Try.ntmps93
  go_wp2
  go_ret2
  exact ⟨rfl, rfl⟩
theorem rexprs_3 (w : World) : Calls Try.prog 93 #[.int .i64 3] w fun e w' => e = .returned (.tuple #[.int .i64 (exprsOf 3).1, .int .i64 (exprsOf 3).2]) ∧ w = w' := by
  go_enter Try.func93, Try.ntmps93
  go_wp2
  go_ret2
  exact ⟨rfl, rfl⟩
theorem rexprs_4 (w : World) : Calls Try.prog 93 #[.int .i64 4] w fun e w' => e = .returned (.tuple #[.int .i64 (exprsOf 4).1, .int .i64 (exprsOf 4).2]) ∧ w = w' := by
  go_enter Try.func93, Try.ntmps93
  go_wp2
  go_ret2
  exact ⟨rfl, rfl⟩
theorem rexprs_5 (w : World) : Calls Try.prog 93 #[.int .i64 5] w fun e w' => e = .returned (.tuple #[.int .i64 (exprsOf 5).1, .int .i64 (exprsOf 5).2]) ∧ w = w' := by
  go_enter Try.func93, Try.ntmps93
  go_wp2
  go_ret2
  exact ⟨rfl, rfl⟩
theorem rexprs_6 (w : World) : Calls Try.prog 93 #[.int .i64 6] w fun e w' => e = .returned (.tuple #[.int .i64 (exprsOf 6).1, .int .i64 (exprsOf 6).2]) ∧ w = w' := by
  go_enter Try.func93, Try.ntmps93
  go_wp2
  go_ret2
  exact ⟨rfl, rfl⟩
theorem rexprs_7 (w : World) : Calls Try.prog 93 #[.int .i64 7] w fun e w' => e = .returned (.tuple #[.int .i64 (exprsOf 7).1, .int .i64 (exprsOf 7).2]) ∧ w = w' := by
  go_enter Try.func93, Try.ntmps93
  go_wp2
  go_ret2
  exact ⟨rfl, rfl⟩
theorem rexprs_any (k : Int) (w : World) : Calls Try.prog 93 #[.int .i64 k] w fun e w' => e = .returned (.tuple #[.int .i64 (exprsOf k).1, .int .i64 (exprsOf k).2]) ∧ w = w' := by
  by_cases hk : 1 ≤ k ∧ k ≤ 7
  · have hc : k = 1 ∨ k = 2 ∨ k = 3 ∨ k = 4 ∨ k = 5 ∨ k = 6 ∨ k = 7 := by omega
    rcases hc with rfl | rfl | rfl | rfl | rfl | rfl | rfl
    · exact rexprs_1 w
    · exact rexprs_2 w
    · exact rexprs_3 w
    · exact rexprs_4 w
    · exact rexprs_5 w
    · exact rexprs_6 w
    · exact rexprs_7 w
  · have H : Hid (exprsOf k = (-1, -1)) := by
      show exprsOf k = _
      unfold exprsOf; rw [if_neg (by omega), if_neg (by omega), if_neg (by omega)]
    have h1 : (k == 1) = false := by simp; omega
    have h2 : (k == 2) = false := by simp; omega
    have h3 : (k == 3) = false := by simp; omega
    have h4 : (k == 4) = false := by simp; omega
    have h5 : (k == 5) = false := by simp; omega
    have h6 : (k == 6) = false := by simp; omega
    have h7 : (k == 7) = false := by simp; omega
    clear hk
    go_enter Try.func93, Try.ntmps93
    go_wp2
    go_ret2
    rw [H.out]
    exact ⟨rfl, rfl⟩

set_option maxHeartbeats 2000000 in
theorem shape_any (w : World) (kind num : Int) (type name : ByteArray) (es : List Expr) (th el : List Stmt) (a1 a2 a3 : Option Addr) (n1 n2 n3 cap1 cap2 cap3 : Nat) (wt : type.size ≤ maxS) (ws : name.size ≤ maxS)
    (h1 : es.length = n1) (h2 : th.length = n2) (h3 : el.length = n3) :
    Calls Try.prog 79 #[.agg #[.int .i64 kind, .int .i64 num, .string type, .string name, .slice a1 n1 cap1, .slice a2 n2 cap2, .slice a3 n3 cap3]] w fun e w' => e = .returned (.bool (stmtTop ⟨kind, num, type, name, es, th, el⟩)) ∧ Below w.heap.size w w' := by
  have hKC : ∀ w : World, Calls Try.prog 93 #[.int .i64 kind] w fun e w' => e = .returned (.tuple #[.int .i64 (exprsOf kind).1, .int .i64 (exprsOf kind).2]) ∧ w = w' := rexprs_any kind
  generalize hKO : exprsOf kind = ko at hKC
  obtain ⟨lo, hi⟩ := ko
  have HKC := Lib.hid hKC
  clear hKC
  have e2 : th.isEmpty = (n2 == 0) := by rw [← h2]; cases th <;> simp
  have e3 : el.isEmpty = (n3 == 0) := by rw [← h3]; cases el <;> simp
  by_cases k1 : kind = 1
  · have HC : Hid (stmtTop ⟨kind, num, type, name, es, th, el⟩ = (decide (0 ≤ lo) && decide (lo ≤ (n1 : Int)) && decide ((n1 : Int) ≤ hi) && (isTypeB type && isNameB name) && num == 0 && n2 == 0 && n3 == 0)) := by
      show stmtTop _ = _
      simp only [stmtTop, hKO, h1, e2, e3]
      simp [k1]
    have t1 : (kind == 1) = true := by simp [k1]
    have t3 : (kind == 3) = false := by simp [k1]
    have t4 : (kind == 4) = false := by simp [k1]
    have t5 : (kind == 5) = false := by simp [k1]
    have t5' : (kind != 5) = true := by simp [k1]
    clear k1 hKO
    go_enter Try.func79, Try.ntmps79
    go_wp2_with (first
      | (go_at_call 93; refine (HKC.out _).mono ?_; rintro e w' ⟨rfl, rfl⟩)
      | (go_at_call 53; refine (refType_any _ wt _).mono ?_; rintro e w' ⟨rfl, rfl⟩)
      | (go_at_call 51; refine (refIsName_any _ ws _).mono ?_; rintro e w' ⟨rfl, rfl⟩))
    all_goals go_ret
    all_goals refine ⟨ret_bool ?_, by go_grown⟩
    all_goals rw [HC.out]
    all_goals clear HC HKC
    all_goals simp_all
    all_goals first | done | (intros; omega) | (intros; simp_all; done) | (rw [Bool.eq_iff_iff]; simp; done)
  by_cases k3 : kind = 3
  · have HC : Hid (stmtTop ⟨kind, num, type, name, es, th, el⟩ = (decide (0 ≤ lo) && decide (lo ≤ (n1 : Int)) && decide ((n1 : Int) ≤ hi) && (type.toList.isEmpty && name.toList.isEmpty) && num == 0)) := by
      show stmtTop _ = _
      simp only [stmtTop, hKO, h1, e2, e3]
      simp [k3]
    have t1 : (kind == 1) = false := by simp [k3]
    have t3 : (kind == 3) = true := by simp [k3]
    have t4 : (kind == 4) = false := by simp [k3]
    have t5 : (kind == 5) = false := by simp [k3]
    have t5' : (kind != 5) = true := by simp [k3]
    clear k3 hKO
    go_enter Try.func79, Try.ntmps79
    go_wp2_with (first
      | (go_at_call 93; refine (HKC.out _).mono ?_; rintro e w' ⟨rfl, rfl⟩)
      | (go_at_call 53; refine (refType_any _ wt _).mono ?_; rintro e w' ⟨rfl, rfl⟩)
      | (go_at_call 51; refine (refIsName_any _ ws _).mono ?_; rintro e w' ⟨rfl, rfl⟩))
    all_goals go_ret
    all_goals refine ⟨ret_bool ?_, by go_grown⟩
    all_goals rw [HC.out]
    all_goals clear HC HKC
    all_goals simp_all
    all_goals first | done | (intros; omega) | (intros; simp_all; done) | (rw [Bool.eq_iff_iff]; simp; done)
  by_cases k4 : kind = 4
  · have HC : Hid (stmtTop ⟨kind, num, type, name, es, th, el⟩ = (decide (0 ≤ lo) && decide (lo ≤ (n1 : Int)) && decide ((n1 : Int) ≤ hi) && (type.toList.isEmpty && name.toList.isEmpty) && num == 0 && n3 == 0)) := by
      show stmtTop _ = _
      simp only [stmtTop, hKO, h1, e2, e3]
      simp [k4]
    have t1 : (kind == 1) = false := by simp [k4]
    have t3 : (kind == 3) = false := by simp [k4]
    have t4 : (kind == 4) = true := by simp [k4]
    have t5 : (kind == 5) = false := by simp [k4]
    have t5' : (kind != 5) = true := by simp [k4]
    clear k4 hKO
    go_enter Try.func79, Try.ntmps79
    go_wp2_with (first
      | (go_at_call 93; refine (HKC.out _).mono ?_; rintro e w' ⟨rfl, rfl⟩)
      | (go_at_call 53; refine (refType_any _ wt _).mono ?_; rintro e w' ⟨rfl, rfl⟩)
      | (go_at_call 51; refine (refIsName_any _ ws _).mono ?_; rintro e w' ⟨rfl, rfl⟩))
    all_goals go_ret
    all_goals refine ⟨ret_bool ?_, by go_grown⟩
    all_goals rw [HC.out]
    all_goals clear HC HKC
    all_goals simp_all
    all_goals first | done | (intros; omega) | (intros; simp_all; done) | (rw [Bool.eq_iff_iff]; simp; done)
  by_cases k5 : kind = 5
  · have HC : Hid (stmtTop ⟨kind, num, type, name, es, th, el⟩ = (decide (0 ≤ lo) && decide (lo ≤ (n1 : Int)) && decide ((n1 : Int) ≤ hi) && (type.toList.isEmpty && name.toList.isEmpty) && (decide (0 ≤ num) && decide (num ≤ 99)) && n2 == 0 && n3 == 0)) := by
      show stmtTop _ = _
      simp only [stmtTop, hKO, h1, e2, e3]
      simp [k5]
    have t1 : (kind == 1) = false := by simp [k5]
    have t3 : (kind == 3) = false := by simp [k5]
    have t4 : (kind == 4) = false := by simp [k5]
    have t5 : (kind == 5) = true := by simp [k5]
    have t5' : (kind != 5) = false := by simp [k5]
    clear k5 hKO
    go_enter Try.func79, Try.ntmps79
    go_wp2_with (first
      | (go_at_call 93; refine (HKC.out _).mono ?_; rintro e w' ⟨rfl, rfl⟩)
      | (go_at_call 53; refine (refType_any _ wt _).mono ?_; rintro e w' ⟨rfl, rfl⟩)
      | (go_at_call 51; refine (refIsName_any _ ws _).mono ?_; rintro e w' ⟨rfl, rfl⟩))
    all_goals go_ret
    all_goals refine ⟨ret_bool ?_, by go_grown⟩
    all_goals rw [HC.out]
    all_goals clear HC HKC
    all_goals simp_all
    all_goals first | done | (intros; omega) | (intros; simp_all; done) | (rw [Bool.eq_iff_iff]; simp; done)
  have HC : Hid (stmtTop ⟨kind, num, type, name, es, th, el⟩ = (decide (0 ≤ lo) && decide (lo ≤ (n1 : Int)) && decide ((n1 : Int) ≤ hi) && (type.toList.isEmpty && name.toList.isEmpty) && num == 0 && n2 == 0 && n3 == 0)) := by
    show stmtTop _ = _
    simp only [stmtTop, hKO, h1, e2, e3]
    have b3 : (kind == 3) = false := by simp; exact k3
    have b4 : (kind == 4) = false := by simp; exact k4
    rw [b3, b4, if_neg k1, if_neg k5]
    simp
  have t1 : (kind == 1) = false := by simp; assumption
  have t3 : (kind == 3) = false := by simp; assumption
  have t4 : (kind == 4) = false := by simp; assumption
  have t5 : (kind == 5) = false := by simp; assumption
  have t5' : (kind != 5) = true := by simp; assumption
  clear k1 k3 k4 k5 hKO
  go_enter Try.func79, Try.ntmps79
  go_wp2_with (first
    | (go_at_call 93; refine (HKC.out _).mono ?_; rintro e w' ⟨rfl, rfl⟩)
    | (go_at_call 53; refine (refType_any _ wt _).mono ?_; rintro e w' ⟨rfl, rfl⟩)
    | (go_at_call 51; refine (refIsName_any _ ws _).mono ?_; rintro e w' ⟨rfl, rfl⟩))
  all_goals go_ret
  all_goals refine ⟨ret_bool ?_, by go_grown⟩
  all_goals rw [HC.out]
  all_goals clear HC HKC
  all_goals simp_all
  all_goals first | done | (intros; omega) | (intros; simp_all; done) | (rw [Bool.eq_iff_iff]; simp; done)

set_option maxHeartbeats 4000000 in
theorem mayStmts_any (d : Nat) : ∀ (w : World) (v : Value) (l : List Stmt), RStmts d w (· < w.heap.size) v l →
    Calls Try.prog 54 #[v] w fun e w' => e = .returned (.bool (l.all stmtB)) ∧ Below w.heap.size w w' := by
  induction d using Nat.strongRecOn with
  | ind d ih =>
    intro w v l ⟨a, n, cap, hv, hn, hcap, hmax, hel⟩
    subst hv
    have H := Lib.hid hel
    have IH := Lib.hid ih
    have HN := Lib.hid hn
    unfold maxC at hmax
    clear hel ih hn
    go_enter Try.func54, Try.ntmps54
    go_wp2
    go_loopw [10] (fun v10 w' => ∃ j : Nat, j ≤ n ∧ v10 = .int .i64 j ∧ Hid (l.all stmtB = (l.drop j).all stmtB) ∧ Hid (Below w.heap.size w w')) (fun v10 _ => n - (intOf v10).toNat)
    case atStart => exact ⟨0, by omega, rfl, rfl, Below.refl _ _⟩
    case round =>
      obtain ⟨j, hj, rfl, HP, HB⟩ := hrel
      by_cases hlt : j < n
      · obtain ⟨x, hx⟩ : ∃ x, l[j]? = some x := ⟨_, List.getElem?_eq_getElem (by rw [HN.out]; exact hlt)⟩
        have HXJ := Lib.hid hx
        clear hx
        obtain ⟨b, off, cs, rfl, hbl, hc, hr⟩ := H.out j _ HXJ.out
        obtain ⟨d', a1, n1, cap1, a2, n2, cap2, a3, n3, cap3, hd, rfl, -, -, wt, ws, h4, h5, h6⟩ := hr.inv
        obtain ⟨c0, c1, c2, c3, c4, c5, c6, -⟩ := cellsAt_of_block (HB.out.block b hbl) hc
        have HD : Hid (l.drop j = x :: l.drop (j + 1)) := drop_of_getElem? HXJ.out
        have HT := Lib.hid (stmtB_eq x)
        have HE := Lib.hid h4
        have H5 := Lib.hid h5
        have H6 := Lib.hid h6
        obtain ⟨_, _, _, heq, hl1, hx1, hm1, hel⟩ := h4
        cases heq
        have HL1 := Lib.hid hl1
        have HL2 : Hid (x.thn.length = n2) := by obtain ⟨_, _, _, heq, hl2, _⟩ := h5; cases heq; exact hl2
        have HL3 : Hid (x.els.length = n3) := by obtain ⟨_, _, _, heq, hl3, _⟩ := h6; cases heq; exact hl3
        have HEL := Lib.hid hel
        unfold maxC at hm1
        clear h5 h6 hc hr hl1 hel
        have HSH : Hid (∀ W : World, Calls Try.prog 79 #[.agg #[.int .i64 x.kind, .int .i64 x.num, .string x.type, .string x.name, .slice a1 n1 cap1, .slice a2 n2 cap2, .slice a3 n3 cap3]] W fun e w' => e = .returned (.bool (stmtTop x)) ∧ Below W.heap.size W w') :=
          fun W => shape_any W x.kind x.num x.type x.name x.exprs x.thn x.els a1 a2 a3 n1 n2 n3 cap1 cap2 cap3 wt ws HL1.out HL2.out HL3.out
        obtain ⟨wo, rfl⟩ : ∃ wo : World, wo = wr := ⟨_, rfl⟩
        go_wp2_with fail
        refine (HSH.out _).mono ?_
        rintro e w1 ⟨rfl, hb1⟩
        have HB1 : Hid (Below w.heap.size w w1) := afterCall (HB.out.alloc HB.out.size _) hb1
        have q0 : w1.cell? ⟨wo.heap.size, 0, none⟩ = some (.int .i64 x.kind) := (hb1.cell (by simp)).trans (by simp)
        have q4 : w1.cell? ⟨wo.heap.size, 4, none⟩ = some (.slice a1 n1 cap1) := (hb1.cell (by simp)).trans (by simp)
        have q5 : w1.cell? ⟨wo.heap.size, 5, none⟩ = some (.slice a2 n2 cap2) := (hb1.cell (by simp)).trans (by simp)
        have q6 : w1.cell? ⟨wo.heap.size, 6, none⟩ = some (.slice a3 n3 cap3) := (hb1.cell (by simp)).trans (by simp)
        clear hb1 c0 c1 c2 c3 c4 c5 c6
        cases htop : stmtTop x with
        | false =>
          go_wp2
          go_ret
          exact ⟨ret_bool (by rw [HP.out, HD.out, List.all_cons, HT.out, htop]; simp), HB1.out⟩
        | true =>
          have HTOP : Hid (stmtTop x = true) := htop
          go_wp2
          clear htop
          go_loopw [20] (fun v20 w' => ∃ k : Nat, k ≤ n1 ∧ v20 = .int .i64 k ∧ Hid (x.exprs.all exprB = (x.exprs.drop k).all exprB) ∧ Hid (Below w.heap.size w w') ∧ w'.cell? ⟨wo.heap.size, 0, none⟩ = some (.int .i64 x.kind) ∧
            w'.cell? ⟨wo.heap.size, 4, none⟩ = some (.slice a1 n1 cap1) ∧ w'.cell? ⟨wo.heap.size, 5, none⟩ = some (.slice a2 n2 cap2) ∧ w'.cell? ⟨wo.heap.size, 6, none⟩ = some (.slice a3 n3 cap3)) (fun v20 _ => n1 - (intOf v20).toNat)
          case atStart => exact ⟨0, by omega, rfl, rfl, HB1, q0, q4, q5, q6⟩
          case round =>
            clear q0 q4 q5 q6 HB1
            obtain ⟨k, hk, rfl, HPE, HB2, q0, q4, q5, q6⟩ := hrel
            by_cases hlt2 : k < n1
            · obtain ⟨y, hy⟩ : ∃ y, x.exprs[k]? = some y := ⟨_, List.getElem?_eq_getElem (by rw [HL1.out]; exact hlt2)⟩
              have HY := Lib.hid hy
              clear hy
              obtain ⟨b', off', cs', rfl, hbl', hc, hr⟩ := HEL.out k _ HY.out
              obtain ⟨_, a7, n7, cap7, _, rfl, -⟩ := hr.inv
              have HR := Lib.hid hr
              obtain ⟨c0, c1, c2, c3, -⟩ := cellsAt_of_block (HB2.out.block b' hbl') hc
              have HDE : Hid (x.exprs.drop k = y :: x.exprs.drop (k + 1)) := drop_of_getElem? HY.out
              have HBA : Hid (∀ X, Below w.heap.size w (wr.alloc X)) := fun X => HB2.out.alloc HB2.out.size X
              have p0 := fun X => next (w2 := wr.alloc X) (by go_grown) q0
              have p4 := fun X => next (w2 := wr.alloc X) (by go_grown) q4
              have p5 := fun X => next (w2 := wr.alloc X) (by go_grown) q5
              have p6 := fun X => next (w2 := wr.alloc X) (by go_grown) q6
              clear hc hr q0 q4 q5 q6
              go_wp2_with fail
              (with_reducible refine (mayExpr_any d' _ [_, _, _, _] y (HR.out.mono ?_ ?_)).mono ?_)
              · exact fun k hk => Nat.lt_of_lt_of_le hk (HBA.out _).size
              · exact fun k hk => (HBA.out _).block k hk
              rintro e w2 ⟨rfl, hb2⟩
              have HB3 : Hid (Below w.heap.size w w2) := afterCall (HBA.out _) hb2
              have r0 := next (o := 0) hb2 (p0 _)
              have r4 := next (o := 4) hb2 (p4 _)
              have r5 := next (o := 5) hb2 (p5 _)
              have r6 := next (o := 6) hb2 (p6 _)
              clear hb2 p0 p4 p5 p6
              cases hq : exprB y with
              | false =>
                go_wp2
                go_ret
                exact ⟨ret_bool (by rw [HP.out, HD.out, List.all_cons, HT.out, HPE.out, HDE.out]; simp [hq]), HB3.out⟩
              | true =>
                have HP2 : Hid (x.exprs.all exprB = (x.exprs.drop (k + 1)).all exprB) := by
                  show x.exprs.all exprB = (x.exprs.drop (k + 1)).all exprB
                  rw [HPE.out, HDE.out]; simp [hq]
                go_wp2
                refine ⟨?_, by simp [intOf]; omega⟩
                first
                  | exact ⟨k + 1, by omega, by go_num, HP2, HB3, r0, r4, r5, r6⟩
                  | ((repeat apply Exists.intro)
                     refine ⟨⟨k + 1, by omega, ?_, HP2, HB3, r0, r4, r5, r6⟩, rfl⟩
                     go_num)
            · obtain rfl : k = n1 := by omega
              have HX : Hid (x.exprs.all exprB = true) := by
                show x.exprs.all exprB = true
                rw [HPE.out, List.drop_of_length_le (by rw [HL1.out]; exact Nat.le_refl _)]; rfl
              obtain ⟨w3, hw3⟩ : ∃ w3, w3 = wr := ⟨_, rfl⟩
              subst hw3
              have HB3 := HB2
              clear HPE HB2
              by_cases k2 : x.kind = 2
              · have t2 : (x.kind == 2) = true := by simp [k2]
                have HK : Hid (x.kind = 2) := k2
                have hk1 : 1 ≤ k := by
                  have h0 := HTOP.out
                  unfold stmtTop exprsOf at h0
                  rw [k2, HL1.out] at h0
                  simp at h0
                  omega
                clear k2
                obtain ⟨y, hy⟩ : ∃ y, x.exprs[0]? = some y := ⟨_, List.getElem?_eq_getElem (by rw [HL1.out]; omega)⟩
                have HF0 : Hid (firstB x = isPlace y.kind) := by show firstB x = _; rw [first_of hy]; simp [HK.out]
                obtain ⟨b1, off1, cs1, rfl, hbl1, hc1, hr1⟩ := HEL.out 0 _ hy
                obtain ⟨_, _, _, _, _, rfl, -⟩ := hr1.inv
                obtain ⟨c0, -⟩ := cellsAt_of_block (HB3.out.block b1 hbl1) hc1
                have c0' : w3.cell? ⟨b1, off1, none⟩ = some (.int .i64 y.kind) := by simpa using c0
                clear c0 hc1 hr1 hy
                have HPL : Hid (isPlace y.kind = (y.kind == 4 || y.kind == 7 || y.kind == 8)) := rfl
                by_cases p4 : y.kind = 4
                · have HF : Hid (firstB x = true) := by show firstB x = true; rw [HF0.out, HPL.out, p4]; rfl
                  have e4 : (y.kind != 4) = false := by simp [p4]
                  clear p4
                  go_wp2_with fail
                  refine (IH.out d' hd w3 _ x.thn (H5.out.mono (fun k hk => Nat.lt_of_lt_of_le hk HB3.out.size) (fun k hk => HB3.out.block k hk))).mono ?_
                  rintro e w4 ⟨rfl, hb4⟩
                  have HB4 := nextB hb4 HB3
                  have r6 := next (o := 6) hb4 q6
                  clear hb4 q4 q5 q6 q0
                  cases hth : x.thn.all stmtB with
                  | false =>
                    go_wp2
                    go_ret
                    exact ⟨ret_bool (by rw [HP.out, HD.out, List.all_cons, HT.out, hth]; simp), HB4.out⟩
                  | true =>
                    go_wp2_with fail
                    refine (IH.out d' hd w4 _ x.els (H6.out.mono (fun k hk => Nat.lt_of_lt_of_le hk HB4.out.size) (fun k hk => HB4.out.block k hk))).mono ?_
                    rintro e w5 ⟨rfl, hb5⟩
                    have HB5 := nextB hb5 HB4
                    clear hb5 r6
                    cases hel : x.els.all stmtB with
                    | false =>
                      go_wp2
                      go_ret
                      exact ⟨ret_bool (by rw [HP.out, HD.out, List.all_cons, HT.out, hel]; simp), HB5.out⟩
                    | true =>
                      have HP2 : Hid (l.all stmtB = (l.drop (j + 1)).all stmtB) := by
                        show l.all stmtB = (l.drop (j + 1)).all stmtB
                        rw [HP.out, HD.out, List.all_cons, HT.out, HTOP.out, HX.out, HF.out, hth, hel]; simp
                      go_wp2
                      refine ⟨?_, by simp [intOf]; omega⟩
                      first
                        | exact ⟨j + 1, by omega, by go_num, HP2, HB5⟩
                        | ((repeat apply Exists.intro)
                           refine ⟨⟨j + 1, by omega, ?_, HP2, HB5⟩, rfl⟩
                           go_num)
                have e4 : (y.kind != 4) = true := by simp [p4]
                by_cases p7 : y.kind = 7
                · have HF : Hid (firstB x = true) := by show firstB x = true; rw [HF0.out, HPL.out, p7]; rfl
                  have e7 : (y.kind != 7) = false := by simp [p7]
                  clear p4 p7
                  go_wp2_with fail
                  refine (IH.out d' hd w3 _ x.thn (H5.out.mono (fun k hk => Nat.lt_of_lt_of_le hk HB3.out.size) (fun k hk => HB3.out.block k hk))).mono ?_
                  rintro e w4 ⟨rfl, hb4⟩
                  have HB4 := nextB hb4 HB3
                  have r6 := next (o := 6) hb4 q6
                  clear hb4 q4 q5 q6 q0
                  cases hth : x.thn.all stmtB with
                  | false =>
                    go_wp2
                    go_ret
                    exact ⟨ret_bool (by rw [HP.out, HD.out, List.all_cons, HT.out, hth]; simp), HB4.out⟩
                  | true =>
                    go_wp2_with fail
                    refine (IH.out d' hd w4 _ x.els (H6.out.mono (fun k hk => Nat.lt_of_lt_of_le hk HB4.out.size) (fun k hk => HB4.out.block k hk))).mono ?_
                    rintro e w5 ⟨rfl, hb5⟩
                    have HB5 := nextB hb5 HB4
                    clear hb5 r6
                    cases hel : x.els.all stmtB with
                    | false =>
                      go_wp2
                      go_ret
                      exact ⟨ret_bool (by rw [HP.out, HD.out, List.all_cons, HT.out, hel]; simp), HB5.out⟩
                    | true =>
                      have HP2 : Hid (l.all stmtB = (l.drop (j + 1)).all stmtB) := by
                        show l.all stmtB = (l.drop (j + 1)).all stmtB
                        rw [HP.out, HD.out, List.all_cons, HT.out, HTOP.out, HX.out, HF.out, hth, hel]; simp
                      go_wp2
                      refine ⟨?_, by simp [intOf]; omega⟩
                      first
                        | exact ⟨j + 1, by omega, by go_num, HP2, HB5⟩
                        | ((repeat apply Exists.intro)
                           refine ⟨⟨j + 1, by omega, ?_, HP2, HB5⟩, rfl⟩
                           go_num)
                have e7 : (y.kind != 7) = true := by simp [p7]
                by_cases p8 : y.kind = 8
                · have HF : Hid (firstB x = true) := by show firstB x = true; rw [HF0.out, HPL.out, p8]; rfl
                  have e8 : (y.kind != 8) = false := by simp [p8]
                  clear p4 p7 p8
                  go_wp2_with fail
                  refine (IH.out d' hd w3 _ x.thn (H5.out.mono (fun k hk => Nat.lt_of_lt_of_le hk HB3.out.size) (fun k hk => HB3.out.block k hk))).mono ?_
                  rintro e w4 ⟨rfl, hb4⟩
                  have HB4 := nextB hb4 HB3
                  have r6 := next (o := 6) hb4 q6
                  clear hb4 q4 q5 q6 q0
                  cases hth : x.thn.all stmtB with
                  | false =>
                    go_wp2
                    go_ret
                    exact ⟨ret_bool (by rw [HP.out, HD.out, List.all_cons, HT.out, hth]; simp), HB4.out⟩
                  | true =>
                    go_wp2_with fail
                    refine (IH.out d' hd w4 _ x.els (H6.out.mono (fun k hk => Nat.lt_of_lt_of_le hk HB4.out.size) (fun k hk => HB4.out.block k hk))).mono ?_
                    rintro e w5 ⟨rfl, hb5⟩
                    have HB5 := nextB hb5 HB4
                    clear hb5 r6
                    cases hel : x.els.all stmtB with
                    | false =>
                      go_wp2
                      go_ret
                      exact ⟨ret_bool (by rw [HP.out, HD.out, List.all_cons, HT.out, hel]; simp), HB5.out⟩
                    | true =>
                      have HP2 : Hid (l.all stmtB = (l.drop (j + 1)).all stmtB) := by
                        show l.all stmtB = (l.drop (j + 1)).all stmtB
                        rw [HP.out, HD.out, List.all_cons, HT.out, HTOP.out, HX.out, HF.out, hth, hel]; simp
                      go_wp2
                      refine ⟨?_, by simp [intOf]; omega⟩
                      first
                        | exact ⟨j + 1, by omega, by go_num, HP2, HB5⟩
                        | ((repeat apply Exists.intro)
                           refine ⟨⟨j + 1, by omega, ?_, HP2, HB5⟩, rfl⟩
                           go_num)
                have e8 : (y.kind != 8) = true := by simp [p8]
                have HF : Hid (firstB x = false) := by show firstB x = false; rw [HF0.out, HPL.out]; simp; omega
                clear p4 p7 p8
                go_wp2
                go_ret
                exact ⟨ret_bool (by rw [HP.out, HD.out, List.all_cons, HT.out, HF.out]; simp), HB3.out⟩
              have t2 : (x.kind == 2) = false := by simp [k2]
              by_cases k7 : x.kind = 7
              · have t7 : (x.kind == 7) = true := by simp [k7]
                have HK : Hid (x.kind = 7) := k7
                have hk1 : 1 ≤ k := by
                  have h0 := HTOP.out
                  unfold stmtTop exprsOf at h0
                  rw [k7, HL1.out] at h0
                  simp at h0
                  omega
                clear k2 k7
                obtain ⟨y, hy⟩ : ∃ y, x.exprs[0]? = some y := ⟨_, List.getElem?_eq_getElem (by rw [HL1.out]; omega)⟩
                have HF0 : Hid (firstB x = (y.kind == 10)) := by show firstB x = _; rw [first_of hy]; simp [HK.out]
                obtain ⟨b1, off1, cs1, rfl, hbl1, hc1, hr1⟩ := HEL.out 0 _ hy
                obtain ⟨_, _, _, _, _, rfl, -⟩ := hr1.inv
                obtain ⟨c0, -⟩ := cellsAt_of_block (HB3.out.block b1 hbl1) hc1
                have c0' : w3.cell? ⟨b1, off1, none⟩ = some (.int .i64 y.kind) := by simpa using c0
                clear c0 hc1 hr1 hy
                by_cases p10 : y.kind = 10
                · have HF : Hid (firstB x = true) := by show firstB x = true; rw [HF0.out, p10]; rfl
                  have e10 : (y.kind != 10) = false := by simp [p10]
                  clear p10
                  go_wp2_with fail
                  refine (IH.out d' hd w3 _ x.thn (H5.out.mono (fun k hk => Nat.lt_of_lt_of_le hk HB3.out.size) (fun k hk => HB3.out.block k hk))).mono ?_
                  rintro e w4 ⟨rfl, hb4⟩
                  have HB4 := nextB hb4 HB3
                  have r6 := next (o := 6) hb4 q6
                  clear hb4 q4 q5 q6 q0
                  cases hth : x.thn.all stmtB with
                  | false =>
                    go_wp2
                    go_ret
                    exact ⟨ret_bool (by rw [HP.out, HD.out, List.all_cons, HT.out, hth]; simp), HB4.out⟩
                  | true =>
                    go_wp2_with fail
                    refine (IH.out d' hd w4 _ x.els (H6.out.mono (fun k hk => Nat.lt_of_lt_of_le hk HB4.out.size) (fun k hk => HB4.out.block k hk))).mono ?_
                    rintro e w5 ⟨rfl, hb5⟩
                    have HB5 := nextB hb5 HB4
                    clear hb5 r6
                    cases hel : x.els.all stmtB with
                    | false =>
                      go_wp2
                      go_ret
                      exact ⟨ret_bool (by rw [HP.out, HD.out, List.all_cons, HT.out, hel]; simp), HB5.out⟩
                    | true =>
                      have HP2 : Hid (l.all stmtB = (l.drop (j + 1)).all stmtB) := by
                        show l.all stmtB = (l.drop (j + 1)).all stmtB
                        rw [HP.out, HD.out, List.all_cons, HT.out, HTOP.out, HX.out, HF.out, hth, hel]; simp
                      go_wp2
                      refine ⟨?_, by simp [intOf]; omega⟩
                      first
                        | exact ⟨j + 1, by omega, by go_num, HP2, HB5⟩
                        | ((repeat apply Exists.intro)
                           refine ⟨⟨j + 1, by omega, ?_, HP2, HB5⟩, rfl⟩
                           go_num)
                have e10 : (y.kind != 10) = true := by simp [p10]
                have HF : Hid (firstB x = false) := by show firstB x = false; rw [HF0.out]; simp; exact p10
                clear p10
                go_wp2
                go_ret
                exact ⟨ret_bool (by rw [HP.out, HD.out, List.all_cons, HT.out, HF.out]; simp), HB3.out⟩
              have t7 : (x.kind == 7) = false := by simp [k7]
              have HF : Hid (firstB x = true) := by
                show firstB x = true
                unfold firstB
                cases x.exprs with
                | nil => rfl
                | cons e r => simp only []; rw [if_neg k2, if_neg k7]
              clear k2 k7
              go_wp2_with fail
              refine (IH.out d' hd w3 _ x.thn (H5.out.mono (fun k hk => Nat.lt_of_lt_of_le hk HB3.out.size) (fun k hk => HB3.out.block k hk))).mono ?_
              rintro e w4 ⟨rfl, hb4⟩
              have HB4 := nextB hb4 HB3
              have r6 := next (o := 6) hb4 q6
              clear hb4 q4 q5 q6 q0
              cases hth : x.thn.all stmtB with
              | false =>
                go_wp2
                go_ret
                exact ⟨ret_bool (by rw [HP.out, HD.out, List.all_cons, HT.out, hth]; simp), HB4.out⟩
              | true =>
                go_wp2_with fail
                refine (IH.out d' hd w4 _ x.els (H6.out.mono (fun k hk => Nat.lt_of_lt_of_le hk HB4.out.size) (fun k hk => HB4.out.block k hk))).mono ?_
                rintro e w5 ⟨rfl, hb5⟩
                have HB5 := nextB hb5 HB4
                clear hb5 r6
                cases hel : x.els.all stmtB with
                | false =>
                  go_wp2
                  go_ret
                  exact ⟨ret_bool (by rw [HP.out, HD.out, List.all_cons, HT.out, hel]; simp), HB5.out⟩
                | true =>
                  have HP2 : Hid (l.all stmtB = (l.drop (j + 1)).all stmtB) := by
                    show l.all stmtB = (l.drop (j + 1)).all stmtB
                    rw [HP.out, HD.out, List.all_cons, HT.out, HTOP.out, HX.out, HF.out, hth, hel]; simp
                  go_wp2
                  refine ⟨?_, by simp [intOf]; omega⟩
                  first
                    | exact ⟨j + 1, by omega, by go_num, HP2, HB5⟩
                    | ((repeat apply Exists.intro)
                       refine ⟨⟨j + 1, by omega, ?_, HP2, HB5⟩, rfl⟩
                       go_num)
      · obtain rfl : j = n := by omega
        have HE : Hid (l.drop j = []) := List.drop_of_length_le (by rw [HN.out]; exact Nat.le_refl _)
        go_wp2
        go_ret
        exact ⟨ret_bool (by rw [HP.out, HE.out]; rfl), HB.out⟩
end Go.Proofs.Ytjciafpihdbedaa
end
