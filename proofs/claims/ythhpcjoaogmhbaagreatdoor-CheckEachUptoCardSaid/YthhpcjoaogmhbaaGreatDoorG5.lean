/- Joined by my own program, in build order: Names. -/
import Derived.Test.YthhpcjoaogmhbaaGreatDoorG1
import Derived.Test.YthhpcjoaogmhbaaGreatDoorG4
import Derived.WalkSpells
import Derived.Handy
import Derived.Lib.IndexAny
set_option linter.unusedVariables false
set_option linter.unusedSimpArgs false
section
namespace Go.Proofs.YthhpcjoaogmhbaaGreatDoor
open Go.RowKit
def kI (c : UInt8) : Bool := (97 ≤ c && c ≤ 122) || (65 ≤ c && c ≤ 90)
def AQ (c : UInt8) : Bool := 48 ≤ c && c ≤ 57
def fV (c : UInt8) : Bool := kI c || AQ c || c == 95
theorem Es (c : UInt8) : kI c = decide ((97 ≤ (c.toNat : Int) ∧ (c.toNat : Int) ≤ 122) ∨ (65 ≤ (c.toNat : Int) ∧ (c.toNat : Int) ≤ 90)) := by
 rw [Bool.eq_iff_iff]; simp [kI, UInt8.le_iff_toNat_le]; omega
theorem Aw (c : UInt8) : AQ c = decide (48 ≤ (c.toNat : Int) ∧ (c.toNat : Int) ≤ 57) := by
 rw [Bool.eq_iff_iff]; simp [AQ, UInt8.le_iff_toNat_le]; omega
theorem Kh {p : UInt8 → Prop} [DecidablePred p] (h : ∀ n : Fin 256, p (UInt8.ofNat n.val)) (c : UInt8) : p c := by
 have := h ⟨c.toNat, c.toNat_lt⟩
 simpa using this
theorem KI (c : UInt8) : (decide (97 ≤ bits BinOp.or IntKind.u8 (c.toNat : Int) 32) && decide (bits BinOp.or IntKind.u8 (c.toNat : Int) 32 ≤ 122)) = kI c :=
 Kh (p := fun c => (decide (97 ≤ bits BinOp.or IntKind.u8 (c.toNat : Int) 32) && decide (bits BinOp.or IntKind.u8 (c.toNat : Int) 32 ≤ 122)) = kI c) (by decide +kernel) c
theorem aH {a b : Bool} (h : a = b) : Ending.returned (.bool a) = .returned (.bool b) := by rw [h]
theorem Ao (c : UInt8) (w : World) : Calls Tryz.prog 85 #[.int .u8 c.toNat] w fun e w' => e = .returned (.bool (kI c)) ∧ w = w' := by
 have hq := Lib.hid (KI c)
 go_enter Tryz.func85, Tryz.ntmps85
 go_wp2
 all_goals go_ret
 all_goals refine ⟨aH ?_, rfl⟩
 all_goals rw [← hq.out]; simp [*]
 all_goals omega
theorem pq (c : UInt8) (w : World) : Calls Tryz.prog 77 #[.int .u8 c.toNat] w fun e w' => e = .returned (.bool (kI c)) ∧ w = w' := by
 go_enter Tryz.func77, Tryz.ntmps77
 go_wp2
 all_goals go_ret
 all_goals refine ⟨aH ?_, rfl⟩
 all_goals rw [Es, Bool.eq_iff_iff]; simp; omega
theorem Kz (c : UInt8) (w : World) : Calls Tryz.prog 104 #[.int .u8 c.toNat] w fun e w' => e = .returned (.bool (AQ c)) ∧ w = w' := by
 go_enter Tryz.func104, Tryz.ntmps104
 go_wp2
 all_goals go_ret
 all_goals refine ⟨aH ?_, rfl⟩
 all_goals rw [Aw, Bool.eq_iff_iff]; simp; omega
theorem Hr (c : UInt8) (w : World) : Calls Tryz.prog 112 #[.int .u8 c.toNat] w fun e w' => e = .returned (.bool (AQ c)) ∧ w = w' := by
 go_enter Tryz.func112, Tryz.ntmps112
 go_wp2
 all_goals go_ret
 all_goals refine ⟨aH ?_, rfl⟩
 all_goals rw [Aw, Bool.eq_iff_iff]; simp; omega
theorem MP (c : UInt8) (w : World) : Calls Tryz.prog 87 #[.int .u8 c.toNat] w fun e w' => e = .returned (.bool (fV c)) ∧ w = w' := by
 go_enter Tryz.func87, Tryz.ntmps87
 go_wp2_with (first
  | (go_at_call 85; refine (Ao _ _).mono ?_; rintro e w' ⟨rfl, rfl⟩)
  | (go_at_call 112; refine (Hr _ _).mono ?_; rintro e w' ⟨rfl, rfl⟩))
 all_goals go_ret
 all_goals refine ⟨aH ?_, rfl⟩
 all_goals simp_all [fV]
 all_goals (rw [Bool.eq_iff_iff]; simp [← UInt8.toNat_inj]; omega)
theorem z8 (c : UInt8) (w : World) : Calls Tryz.prog 79 #[.int .u8 c.toNat] w fun e w' => e = .returned (.bool (fV c)) ∧ w = w' := by
 go_enter Tryz.func79, Tryz.ntmps79
 go_wp2_with (first
  | (go_at_call 77; refine (pq _ _).mono ?_; rintro e w' ⟨rfl, rfl⟩)
  | (go_at_call 104; refine (Kz _ _).mono ?_; rintro e w' ⟨rfl, rfl⟩))
 all_goals go_ret
 all_goals refine ⟨aH ?_, rfl⟩
 all_goals simp_all [fV]
 all_goals (rw [Bool.eq_iff_iff]; simp [← UInt8.toNat_inj]; omega)
theorem OA (s : ByteArray) (hs : s.size ≤ maxS) (w : World) : Calls Tryz.prog 86 #[.string s, .func (.func 87) #[] #[]] w fun e w' => e = .returned (.int .i64 (s.data.toList.takeWhile fV).length) ∧ w = w' := by
 unfold maxS at hs
 go_enter Tryz.func86, Tryz.ntmps86
 go_wp2
 go_loop [5] (fun v5 => ∃ k : Nat, k ≤ s.size ∧ v5 = .int .i64 k ∧ (s.data.toList.takeWhile fV).length = k + ((s.data.toList.drop k).takeWhile fV).length) (fun v5 => s.size - (intOf v5).toNat)
 case atStart => exact ⟨0, by omega, rfl, by simp⟩
 case round =>
  obtain ⟨k, hk, rfl, hq⟩ := hrel
  have HQ := Lib.hid hq
  clear hq
  by_cases hlt : k < s.size
  ·have hd : s.data.toList.drop k = s[k] :: s.data.toList.drop (k + 1) := by
    rw [List.drop_eq_getElem_cons (by simpa using hlt)]; rfl
   have HD := Lib.hid hd
   clear hd
   go_wp2_with (go_at_call 87; refine (MP _ _).mono ?_; rintro e w' ⟨rfl, rfl⟩)
   ·have hw : fV s[k] = true := by assumption
    go_round
    case rel => exact ⟨k + 1, by omega, by go_num, by rw [HQ.out, HD.out, List.takeWhile_cons_of_pos hw]; simp; omega⟩
    case measure => simp [intOf]; omega
   ·have hw : fV s[k] = false := by assumption
    go_ret
    refine ⟨?_, rfl⟩
    rw [HQ.out, HD.out, List.takeWhile_cons_of_neg (by simp [hw])]; rfl
  ·have hd : s.data.toList.drop k = [] := List.drop_of_length_le (by simpa using hlt)
   have HD := Lib.hid hd
   clear hd
   go_wp2
   go_ret
   refine ⟨?_, rfl⟩
   rw [HQ.out, HD.out]; rfl
def words : List (List UInt8) := [[99, 108, 97, 115, 115], [101, 120, 116, 101, 110, 100, 115], [105, 110, 116], [109, 97, 105, 110], [105, 102], [101, 108, 115, 101], [119, 104, 105, 108, 101], [112, 114, 105, 110, 116], [114, 101, 116, 117, 114, 110], [110, 117, 108, 108], [116, 104, 105, 115], [110, 101, 119], [114, 101, 97, 100], [100, 101, 99, 108, 97, 115, 115, 105, 102, 121], [108, 101, 110, 103, 116, 104]]
def iC (l : List UInt8) : Bool := words.contains l
def jc : List UInt8 := [32, 99, 108, 97, 115, 115, 32, 101, 120, 116, 101, 110, 100, 115, 32, 105, 110, 116, 32, 109, 97, 105, 110, 32, 105, 102, 32, 101, 108, 115, 101, 32, 119, 104, 105, 108, 101, 32, 112, 114, 105, 110, 116, 32, 114, 101, 116, 117, 114, 110, 32, 110, 117, 108, 108, 32, 116, 104, 105, 115, 32, 110, 101, 119, 32, 114, 101, 97, 100, 32, 100, 101, 99, 108, 97, 115, 115, 105, 102, 121, 32, 108, 101, 110, 103, 116, 104, 32]
theorem Hw (l r : List UInt8) (hsp : 32 ∉ l) (h : (32 :: (l ++ [32])).isPrefixOf r = true) : r[0]? = some 32 ∧ l = (r.drop 1).takeWhile (· != 32) := by
 obtain ⟨t, rfl⟩ := List.isPrefixOf_iff_prefix.1 h
 refine ⟨rfl, ?_⟩
 simp only [List.cons_append, List.drop_succ_cons, List.drop_zero, List.append_assoc]
 rw [List.takeWhile_append_of_pos (by intro a ha; simp; rintro rfl; exact hsp ha)]
 simp
theorem G6 : ∀ i, i < 89 → jc[i]? = some 32 → (jc.drop (i + 1)).takeWhile (· != 32) = [] ∨ (jc.drop (i + 1)).takeWhile (· != 32) ∈ words := by decide +kernel
theorem Me : ∀ l ∈ words, Lib.contains jc (32 :: (l ++ [32])) = true := by decide +kernel
theorem ES : ∀ l ∈ words, 32 ∉ l := by decide +kernel
theorem zY (l : List UInt8) (hne : l ≠ []) (hsp : 32 ∉ l) : Lib.contains jc (32 :: (l ++ [32])) = iC l := by
 rw [Bool.eq_iff_iff]
 constructor
 ·intro h
  rcases Lib.index_spec jc (32 :: (l ++ [32])) with ⟨h1, _⟩ | ⟨i, _, hi, hocc, _⟩
  ·simp [Lib.contains, h1] at h
  ·obtain ⟨h0, h1⟩ := Hw l _ hsp hocc
   have hi' : i < 89 := by
    have : i ≤ jc.length := hi
    rcases Nat.lt_or_ge i 89 with h | h
    ·exact h
    ·have hl : jc.length = 88 := rfl
     omega
   have h2 : jc[i]? = some 32 := by simpa using h0
   rw [List.drop_drop] at h1
   rcases G6 i hi' h2 with h | h
   ·exact absurd (h1.trans h) hne
   ·rw [← h1] at h; simpa [iC] using h
 ·intro h
  exact Me l (by simpa [iC] using h)
theorem indexByte_none (l : List UInt8) (c : UInt8) : (decide (0 ≤ Lib.indexByte l c)) = l.contains c := (Lib.contains_iff_indexByte l c).symm
theorem sF (s : ByteArray) (w : World) : Calls Tryz.prog 78 #[.string s] w fun e w' => e = .returned (.bool (iC s.data.toList)) ∧ w = w' := by
 go_enter Tryz.func78, Tryz.ntmps78
 go_wp2
 all_goals first | contradiction | (simp_all; done) | skip
 all_goals go_ret
 all_goals refine ⟨aH ?_, rfl⟩
 all_goals simp_all [iC, words, Lib.toList_data]
theorem GH (s : ByteArray) (hs : s.size ≤ 1000) (m : Int) (w : World) (hm : w.cell? ⟨1, 0, none⟩ = some (.int .i64 m)) :
 Calls Tryz.prog 88 #[.string s] w fun e w' => e = .returned (.bool (iC s.data.toList)) ∧ w = w' := by
 by_cases hne : s.toList = []
 ·go_enter Tryz.func88, Tryz.ntmps88
  go_wp2
  go_ret
  refine ⟨aH ?_, rfl⟩
  rw [← Lib.toList_data, hne]; rfl
 have HN : Hid (s.data.toList ≠ []) := by rw [← Lib.toList_data]; exact hne
 have hb : (!s.toList.isEmpty) = true := by simp [hne]
 by_cases hsp : 32 ∈ s.data.toList
 ·have h1 : decide (0 ≤ Lib.indexByte s.data.toList 32) = true := by rw [indexByte_none]; exact List.contains_iff_mem.2 hsp
  have H2 : Hid (false = iC s.data.toList) := by
   cases hq : iC s.data.toList with
   | false => rfl
   | true => exact absurd hsp (ES _ (List.contains_iff_mem.1 hq))
  clear hsp
  go_enter Tryz.func88, Tryz.ntmps88
  go_wp2_with fail
  refine (Tryz.strings_Contains_one _ _ _).mono ?_
  rintro e w' ⟨rfl, rfl⟩
  go_wp2
  go_ret
  exact ⟨aH H2.out, rfl⟩
 ·have h1 : decide (0 ≤ Lib.indexByte s.data.toList 32) = false := by rw [indexByte_none, Bool.eq_false_iff]; exact fun h => hsp (List.contains_iff_mem.1 h)
  have H2 : Hid (Lib.contains jc (32 :: (s.data.toList ++ [32])) = iC s.data.toList) := zY _ HN.out hsp
  clear hsp
  go_enter Tryz.func88, Tryz.ntmps88
  go_wp2_with fail
  refine (Tryz.strings_Contains_one _ _ _).mono ?_
  rintro e w' ⟨rfl, rfl⟩
  go_wp2_with fail
  refine (Tryz.strings_Contains _ _ m _ ?_ hm).mono ?_
  ·decide
  rintro e w' ⟨rfl, rfl⟩
  generalize hq : Lib.contains _ _ = q
  have H3 : Hid (q = iC s.data.toList) := by
   rw [← H2.out, ← hq]; congr 1
  clear hq
  go_wp2
  go_ret
  exact ⟨aH H3.out, rfl⟩
def bK (s : ByteArray) : Bool := match s.data.toList with
 | [] => false
 | c :: r => decide ((c :: r).length ≤ 16) && kI c && (c :: r).all fV && !iC (c :: r)
theorem Bu {α : Type} (p : α → Bool) (l : List α) : ((l.takeWhile p).length = l.length) = (l.all p = true) := by
 induction l with
 | nil => simp
 | cons a l ih =>
   by_cases h : p a = true
   ·simp [List.takeWhile_cons_of_pos h, h]; simpa using ih
   ·simp [List.takeWhile_cons_of_neg h, h]
theorem Gr (s : ByteArray) (hs : s.size ≤ maxS) (m : Int) (w : World) (hm : w.cell? ⟨1, 0, none⟩ = some (.int .i64 m)) :
 Calls Tryz.prog 53 #[.string s] w fun e w' => e = .returned (.bool (bK s)) ∧ w = w' := by
 by_cases h0 : s.data.toList = []
 ·have h1 : s.toList = [] := by rw [Lib.toList_data]; exact h0
  have H2 : Hid (bK s = false) := by unfold bK; rw [h0]; rfl
  clear h0
  go_enter Tryz.func53, Tryz.ntmps53
  go_wp2
  go_ret
  exact ⟨aH H2.out.symm, rfl⟩
 have h1 : (!s.toList.isEmpty) = true := by rw [Lib.toList_data]; simpa using h0
 have h1' : ¬ s.toList = [] := by rw [Lib.toList_data]; exact h0
 obtain ⟨c, r, hcr⟩ : ∃ c r, s.data.toList = c :: r := by
  cases h : s.data.toList with
  | nil => exact absurd h h0
  | cons c r => exact ⟨c, r, rfl⟩
 have hsz : s.size = r.length + 1 := by
  have : s.size = s.data.toList.length := by simp
  rw [this, hcr]; rfl
 have hpos : 0 < s.size := by omega
 have H2 : Hid (bK s = (decide ((c :: r).length ≤ 16) && kI c && (c :: r).all fV && !iC (c :: r))) := by unfold bK; rw [hcr]; rfl
 have hc0 : s[0] = c := by
  have h2 : s.data[0]? = some s[0] := by rw [Array.getElem?_eq_getElem (by simpa using hpos)]; rfl
  have : s.data.toList[0]? = some s[0] := by rw [Array.getElem?_toList]; exact h2
  rw [hcr] at this; simpa using this.symm
 have h3 : (((s.data.toList.takeWhile fV).length : Int) == (s.size : Int)) = (c :: r).all fV := by
  have h2 : s.size = s.data.toList.length := by simp
  have := Bu fV s.data.toList
  rw [Bool.eq_iff_iff, ← hcr, ← this, h2]; simp only [beq_iff_eq]; omega
 have HSZ := Lib.hid hsz
 have HCR := Lib.hid hcr
 have HC0 := Lib.hid hc0
 generalize hall : (c :: r).all fV = ball at *
 have HW : Hid (iC (c :: r) = iC s.data.toList) := by rw [HCR.out]; rfl
 have HL : Hid ((c :: r).length = s.size) := by rw [HSZ.out]; rfl
 clear h0 hcr hsz hc0 hall
 go_enter Tryz.func53, Tryz.ntmps53
 go_wp2_with (first
  | (go_at_call 85; rw [HC0.out]; refine (Ao _ _).mono ?_; rintro e w' ⟨rfl, rfl⟩)
  | (go_at_call 86; refine (OA _ hs _).mono ?_; rintro e w' ⟨rfl, rfl⟩)
  | (go_at_call 88; refine (GH _ ?_ m _ hm).mono ?_; · omega
     rintro e w' ⟨rfl, rfl⟩))
 all_goals go_ret
 all_goals refine ⟨aH ?_, rfl⟩
 all_goals rw [H2.out, HW.out, HL.out]
 all_goals simp_all
 all_goals omega
theorem Nr (s : ByteArray) : s.data.toList.length = s.size := rfl
theorem He (s : ByteArray) (hpos : 0 < s.size) : bK s = (decide (s.size ≤ 16) && kI s[0] && s.data.toList.all fV && !iC s.data.toList) := by
 have h2 : s.size = s.data.toList.length := by simp
 have h3 : s.data.toList[0]? = some s[0] := by rw [Array.getElem?_toList, Array.getElem?_eq_getElem (by simpa using hpos)]; rfl
 unfold bK
 rw [h2]
 cases h : s.data.toList with
 | nil => rw [h] at h2; simp only [List.length_nil] at h2; omega
 | cons c r => rw [h] at h3; simp only [List.getElem?_cons_zero, Option.some.injEq] at h3; rw [← h3]
theorem dN (s : ByteArray) (hs : s.size ≤ maxS) (w : World) :
 Calls Tryz.prog 42 #[.string s] w fun e w' => e = .returned (.bool (bK s)) ∧ w = w' := by
 unfold maxS at hs
 by_cases hpos : 0 < s.size
 ·have H2 := Lib.hid (He s hpos)
  by_cases hl : s.size ≤ 16
  ·cases hlt : kI s[0] with
   | false =>
     have H3 : Hid (bK s = false) := by show bK s = false; rw [H2.out, hlt]; simp
     go_enter Tryz.func42, Tryz.ntmps42
     go_wp2_with (go_at_call 77; refine (pq _ _).mono ?_; rintro e w' ⟨rfl, rfl⟩)
     go_ret
     exact ⟨aH H3.out.symm, rfl⟩
   | true =>
     cases hwd : iC s.data.toList with
     | true =>
       have H3 : Hid (bK s = false) := by show bK s = false; rw [H2.out, hwd]; simp
       go_enter Tryz.func42, Tryz.ntmps42
       go_wp2_with (first
        | (go_at_call 77; refine (pq _ _).mono ?_; rintro e w' ⟨rfl, rfl⟩)
        | (go_at_call 78; refine (sF _ _).mono ?_; rintro e w' ⟨rfl, rfl⟩))
       go_ret
       exact ⟨aH H3.out.symm, rfl⟩
     | false =>
       have H3 : Hid (bK s = s.data.toList.all fV) := by show bK s = _; rw [H2.out, hlt, hwd]; simp [hl]
       go_enter Tryz.func42, Tryz.ntmps42
       go_wp2_with (first
        | (go_at_call 77; refine (pq _ _).mono ?_; rintro e w' ⟨rfl, rfl⟩)
        | (go_at_call 78; refine (sF _ _).mono ?_; rintro e w' ⟨rfl, rfl⟩))
       clear hlt hwd
       go_loop [3] (fun v3 => ∃ k : Nat, k ≤ s.size ∧ v3 = .int .i64 k ∧ s.data.toList.all fV = (s.data.toList.drop k).all fV) (fun v3 => s.size - (intOf v3).toNat)
       case atStart => exact ⟨0, by omega, rfl, rfl⟩
       case round =>
        obtain ⟨k, hk, rfl, hq⟩ := hrel
        have HQ := Lib.hid hq
        clear hq
        by_cases hlt : k < s.size
        ·have HD : Hid (s.data.toList.drop k = s[k] :: s.data.toList.drop (k + 1)) := by
          have : s.data.toList.drop k = s[k] :: s.data.toList.drop (k + 1) := by rw [List.drop_eq_getElem_cons (by simpa using hlt)]; rfl
          exact this
         cases hw : fV s[k] with
         | false =>
           go_wp2_with (go_at_call 79; refine (z8 _ _).mono ?_; rintro e w' ⟨rfl, rfl⟩)
           go_ret
           refine ⟨aH ?_, rfl⟩
           rw [H3.out, HQ.out, HD.out]; simp [hw]
         | true =>
           go_wp2_with (go_at_call 79; refine (z8 _ _).mono ?_; rintro e w' ⟨rfl, rfl⟩)
           go_round
           case rel => exact ⟨k + 1, by omega, by go_num, by rw [HQ.out, HD.out]; simp [hw]⟩
           case measure => simp [intOf]; omega
        ·have HD : Hid (s.data.toList.drop k = []) := List.drop_of_length_le (by simpa using hlt)
         go_wp2
         go_ret
         refine ⟨aH ?_, rfl⟩
         rw [H3.out, HQ.out, HD.out]; rfl
  ·go_enter Tryz.func42, Tryz.ntmps42
   go_wp2
   all_goals go_ret
   all_goals refine ⟨aH ?_, rfl⟩
   all_goals rw [H2.out]; simp [hl]
 ·have H2 : Hid (bK s = false) := by
   have h2 : s.data.toList = [] := by
    have : s.data.toList.length = 0 := by rw [Nr]; omega
    exact List.length_eq_zero_iff.1 this
   unfold bK; rw [h2]; rfl
  go_enter Tryz.func42, Tryz.ntmps42
  go_wp2
  all_goals go_ret
  all_goals exact ⟨aH H2.out.symm, rfl⟩
end Go.Proofs.YthhpcjoaogmhbaaGreatDoor
end
