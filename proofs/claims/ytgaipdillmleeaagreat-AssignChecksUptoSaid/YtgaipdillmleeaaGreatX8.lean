/- Joined by my own program, in build order: Names. -/
import Derived.Test.YtgaipdillmleeaaGreatX1
import Derived.Test.YtgaipdillmleeaaGreatX7
import Derived.WalkSpells
import Derived.Handy
import Derived.Lib.IndexAny
set_option linter.unusedVariables false
set_option linter.unusedSimpArgs false
section
namespace Go.Proofs.YtgaipdillmleeaaGreat
open Go.RowKit
def j5 (c : UInt8) : Bool := (97 ≤ c && c ≤ 122) || (65 ≤ c && c ≤ 90)
def BH (c : UInt8) : Bool := 48 ≤ c && c ≤ 57
def fG (c : UInt8) : Bool := j5 c || BH c || c == 95
theorem Fv (c : UInt8) : j5 c = decide ((97 ≤ (c.toNat : Int) ∧ (c.toNat : Int) ≤ 122) ∨ (65 ≤ (c.toNat : Int) ∧ (c.toNat : Int) ≤ 90)) := by
 rw [Bool.eq_iff_iff]; simp [j5, UInt8.le_iff_toNat_le]; omega
theorem Bl (c : UInt8) : BH c = decide (48 ≤ (c.toNat : Int) ∧ (c.toNat : Int) ≤ 57) := by
 rw [Bool.eq_iff_iff]; simp [BH, UInt8.le_iff_toNat_le]; omega
theorem Lv {p : UInt8 → Prop} [DecidablePred p] (h : ∀ n : Fin 256, p (UInt8.ofNat n.val)) (c : UInt8) : p c := by
 have := h ⟨c.toNat, c.toNat_lt⟩;simpa using this
theorem Ma (c : UInt8) : (decide (97 ≤ bits BinOp.or IntKind.u8 (c.toNat : Int) 32) && decide (bits BinOp.or IntKind.u8 (c.toNat : Int) 32 ≤ 122)) = j5 c :=
 Lv (p := fun c => (decide (97 ≤ bits BinOp.or IntKind.u8 (c.toNat : Int) 32) && decide (bits BinOp.or IntKind.u8 (c.toNat : Int) 32 ≤ 122)) = j5 c) (by decide +kernel) c
theorem aG {a b : Bool} (h : a = b) : Ending.returned (.bool a) = .returned (.bool b) := by rw [h]
theorem A9 (c : UInt8) (w : World) : Calls Tryz.prog 105 #[.int .u8 c.toNat] w fun e w' => e = .returned (.bool (j5 c)) ∧ w = w' := by
 have hq := Lib.hid (Ma c);go_enter Tryz.func105, Tryz.ntmps105
 go_wp2
 all_goals go_ret
 all_goals refine ⟨aG ?_, rfl⟩
 all_goals rw [← hq.out]; simp [*]
 all_goals omega
theorem pF (c : UInt8) (w : World) : Calls Tryz.prog 124 #[.int .u8 c.toNat] w fun e w' => e = .returned (.bool (j5 c)) ∧ w = w' := by
 go_enter Tryz.func124, Tryz.ntmps124
 go_wp2
 all_goals go_ret
 all_goals refine ⟨aG ?_, rfl⟩
 all_goals rw [Fv, Bool.eq_iff_iff]; simp; omega
theorem LP (c : UInt8) (w : World) : Calls Tryz.prog 152 #[.int .u8 c.toNat] w fun e w' => e = .returned (.bool (BH c)) ∧ w = w' := by
 go_enter Tryz.func152, Tryz.ntmps152
 go_wp2
 all_goals go_ret
 all_goals refine ⟨aG ?_, rfl⟩
 all_goals rw [Bl, Bool.eq_iff_iff]; simp; omega
theorem I8 (c : UInt8) (w : World) : Calls Tryz.prog 144 #[.int .u8 c.toNat] w fun e w' => e = .returned (.bool (BH c)) ∧ w = w' := by
 go_enter Tryz.func144, Tryz.ntmps144
 go_wp2
 all_goals go_ret
 all_goals refine ⟨aG ?_, rfl⟩
 all_goals rw [Bl, Bool.eq_iff_iff]; simp; omega
theorem OP (c : UInt8) (w : World) : Calls Tryz.prog 107 #[.int .u8 c.toNat] w fun e w' => e = .returned (.bool (fG c)) ∧ w = w' := by
 go_enter Tryz.func107, Tryz.ntmps107
 go_wp2_with (first
  | (go_at_call 105; refine (A9 _ _).mono ?_; rintro e w' ⟨rfl, rfl⟩)
  | (go_at_call 144; refine (I8 _ _).mono ?_; rintro e w' ⟨rfl, rfl⟩))
 all_goals go_ret
 all_goals refine ⟨aG ?_, rfl⟩
 all_goals simp_all [fG]
 all_goals (rw [Bool.eq_iff_iff]; simp [← UInt8.toNat_inj]; omega)
theorem Ap (c : UInt8) (w : World) : Calls Tryz.prog 126 #[.int .u8 c.toNat] w fun e w' => e = .returned (.bool (fG c)) ∧ w = w' := by
 go_enter Tryz.func126, Tryz.ntmps126
 go_wp2_with (first
  | (go_at_call 124; refine (pF _ _).mono ?_; rintro e w' ⟨rfl, rfl⟩)
  | (go_at_call 152; refine (LP _ _).mono ?_; rintro e w' ⟨rfl, rfl⟩))
 all_goals go_ret
 all_goals refine ⟨aG ?_, rfl⟩
 all_goals simp_all [fG]
 all_goals (rw [Bool.eq_iff_iff]; simp [← UInt8.toNat_inj]; omega)
theorem QJ (s : ByteArray) (hs : s.size ≤ maxS) (w : World) : Calls Tryz.prog 106 #[.string s, .func (.func 107) #[] #[]] w fun e w' => e = .returned (.int .i64 (s.data.toList.takeWhile fG).length) ∧ w = w' := by
 unfold maxS at hs
 go_enter Tryz.func106, Tryz.ntmps106
 go_wp2
 go_loop [5] (fun v5 => ∃ k : Nat, k ≤ s.size ∧ v5 = .int .i64 k ∧ (s.data.toList.takeWhile fG).length = k + ((s.data.toList.drop k).takeWhile fG).length) (fun v5 => s.size - (intOf v5).toNat)
 case atStart => exact ⟨0, by omega, rfl, by simp⟩
 case round =>
  obtain ⟨k, hk, rfl, hq⟩ := hrel;have HQ := Lib.hid hq;clear hq;by_cases hlt : k < s.size
  ·have hd : s.data.toList.drop k = s[k] :: s.data.toList.drop (k + 1) := by
    rw [List.drop_eq_getElem_cons (by simpa using hlt)]; rfl
   have HD := Lib.hid hd;clear hd;go_wp2_with (go_at_call 107; refine (OP _ _).mono ?_; rintro e w' ⟨rfl, rfl⟩)
   ·have hw : fG s[k] = true := by assumption
    go_round
    case rel => exact ⟨k + 1, by omega, by go_num, by rw [HQ.out, HD.out, List.takeWhile_cons_of_pos hw]; simp; omega⟩
    case measure => simp [intOf]; omega
   ·have hw : fG s[k] = false := by assumption
    go_ret
    refine ⟨?_, rfl⟩;rw [HQ.out, HD.out, List.takeWhile_cons_of_neg (by simp [hw])]; rfl
  ·have hd : s.data.toList.drop k = [] := List.drop_of_length_le (by simpa using hlt);have HD := Lib.hid hd;clear hd;go_wp2;go_ret
   refine ⟨?_, rfl⟩;rw [HQ.out, HD.out]; rfl
def words : List (List UInt8) := [[99, 108, 97, 115, 115], [101, 120, 116, 101, 110, 100, 115], [105, 110, 116], [109, 97, 105, 110], [105, 102], [101, 108, 115, 101], [119, 104, 105, 108, 101], [112, 114, 105, 110, 116], [114, 101, 116, 117, 114, 110], [110, 117, 108, 108], [116, 104, 105, 115], [110, 101, 119], [114, 101, 97, 100], [100, 101, 99, 108, 97, 115, 115, 105, 102, 121], [108, 101, 110, 103, 116, 104]]
def iA (l : List UInt8) : Bool := words.contains l
def iV : List UInt8 := [32, 99, 108, 97, 115, 115, 32, 101, 120, 116, 101, 110, 100, 115, 32, 105, 110, 116, 32, 109, 97, 105, 110, 32, 105, 102, 32, 101, 108, 115, 101, 32, 119, 104, 105, 108, 101, 32, 112, 114, 105, 110, 116, 32, 114, 101, 116, 117, 114, 110, 32, 110, 117, 108, 108, 32, 116, 104, 105, 115, 32, 110, 101, 119, 32, 114, 101, 97, 100, 32, 100, 101, 99, 108, 97, 115, 115, 105, 102, 121, 32, 108, 101, 110, 103, 116, 104, 32]
theorem Ja (l r : List UInt8) (hsp : 32 ∉ l) (h : (32 :: (l ++ [32])).isPrefixOf r = true) : r[0]? = some 32 ∧ l = (r.drop 1).takeWhile (· != 32) := by
 obtain ⟨t, rfl⟩ := List.isPrefixOf_iff_prefix.1 h;refine ⟨rfl, ?_⟩;simp only [List.cons_append, List.drop_succ_cons, List.drop_zero, List.append_assoc];rw [List.takeWhile_append_of_pos (by intro a ha; simp; rintro rfl; exact hsp ha)];simp
theorem IL : ∀ i, i < 89 → iV[i]? = some 32 → (iV.drop (i + 1)).takeWhile (· != 32) = [] ∨ (iV.drop (i + 1)).takeWhile (· != 32) ∈ words := by decide +kernel
theorem Oa : ∀ l ∈ words, Lib.contains iV (32 :: (l ++ [32])) = true := by decide +kernel
theorem FY : ∀ l ∈ words, 32 ∉ l := by decide +kernel
theorem Am (l : List UInt8) (hne : l ≠ []) (hsp : 32 ∉ l) : Lib.contains iV (32 :: (l ++ [32])) = iA l := by
 rw [Bool.eq_iff_iff];constructor
 ·intro h;rcases Lib.index_spec iV (32 :: (l ++ [32])) with ⟨h1, _⟩ | ⟨i, _, hi, hocc, _⟩
  ·simp [Lib.contains, h1] at h
  ·obtain ⟨h0, h1⟩ := Ja l _ hsp hocc;have hi' : i < 89 := by
    have : i ≤ iV.length := hi;rcases Nat.lt_or_ge i 89 with h | h
    ·exact h
    ·have hl : iV.length = 88 := rfl;omega
   have h2 : iV[i]? = some 32 := by simpa using h0
   rw [List.drop_drop] at h1;rcases IL i hi' h2 with h | h
   ·exact absurd (h1.trans h) hne
   ·rw [← h1] at h; simpa [iA] using h
 ·intro h;exact Oa l (by simpa [iA] using h)
theorem indexByte_none (l : List UInt8) (c : UInt8) : (decide (0 ≤ Lib.indexByte l c)) = l.contains c := (Lib.contains_iff_indexByte l c).symm
theorem tQ (s : ByteArray) (w : World) : Calls Tryz.prog 125 #[.string s] w fun e w' => e = .returned (.bool (iA s.data.toList)) ∧ w = w' := by
 go_enter Tryz.func125, Tryz.ntmps125
 go_wp2
 all_goals first | contradiction | (simp_all; done) | skip
 all_goals go_ret
 all_goals refine ⟨aG ?_, rfl⟩
 all_goals simp_all [iA, words, Lib.toList_data]
theorem Iu (s : ByteArray) (hs : s.size ≤ 1000) (m : Int) (w : World) (hm : w.cell? ⟨0, 0, none⟩ = some (.int .i64 m)) :
 Calls Tryz.prog 108 #[.string s] w fun e w' => e = .returned (.bool (iA s.data.toList)) ∧ w = w' := by
 by_cases hne : s.toList = []
 ·go_enter Tryz.func108, Tryz.ntmps108
  go_wp2
  go_ret
  refine ⟨aG ?_, rfl⟩
  rw [← Lib.toList_data, hne]; rfl
 have HN : Hid (s.data.toList ≠ []) := by rw [← Lib.toList_data]; exact hne
 have hb : (!s.toList.isEmpty) = true := by simp [hne]
 by_cases hsp : 32 ∈ s.data.toList
 ·have h1 : decide (0 ≤ Lib.indexByte s.data.toList 32) = true := by rw [indexByte_none]; exact List.contains_iff_mem.2 hsp
  have H2 : Hid (false = iA s.data.toList) := by
   cases hq : iA s.data.toList with
   | false => rfl
   | true => exact absurd hsp (FY _ (List.contains_iff_mem.1 hq))
  clear hsp
  go_enter Tryz.func108, Tryz.ntmps108
  go_wp2_with fail
  refine (Tryz.strings_Contains_one _ _ _).mono ?_
  rintro e w' ⟨rfl, rfl⟩
  go_wp2
  go_ret
  exact ⟨aG H2.out, rfl⟩
 ·have h1 : decide (0 ≤ Lib.indexByte s.data.toList 32) = false := by rw [indexByte_none, Bool.eq_false_iff]; exact fun h => hsp (List.contains_iff_mem.1 h)
  have H2 : Hid (Lib.contains iV (32 :: (s.data.toList ++ [32])) = iA s.data.toList) := Am _ HN.out hsp
  clear hsp
  go_enter Tryz.func108, Tryz.ntmps108
  go_wp2_with fail
  refine (Tryz.strings_Contains_one _ _ _).mono ?_
  rintro e w' ⟨rfl, rfl⟩
  go_wp2_with fail
  refine (Tryz.strings_Contains _ _ m _ ?_ hm).mono ?_
  ·decide
  rintro e w' ⟨rfl, rfl⟩
  generalize hq : Lib.contains _ _ = q
  have H3 : Hid (q = iA s.data.toList) := by
   rw [← H2.out, ← hq]; congr 1
  clear hq
  go_wp2
  go_ret
  exact ⟨aG H3.out, rfl⟩
def bT (s : ByteArray) : Bool := match s.data.toList with
 | [] => false
 | c :: r => decide ((c :: r).length ≤ 16) && j5 c && (c :: r).all fG && !iA (c :: r)
theorem Cc {α : Type} (p : α → Bool) (l : List α) : ((l.takeWhile p).length = l.length) = (l.all p = true) := by
 induction l with
 | nil => simp
 | cons a l ih =>
   by_cases h : p a = true
   ·simp [List.takeWhile_cons_of_pos h, h]; simpa using ih
   ·simp [List.takeWhile_cons_of_neg h, h]
theorem Ie (s : ByteArray) (hs : s.size ≤ maxS) (m : Int) (w : World) (hm : w.cell? ⟨0, 0, none⟩ = some (.int .i64 m)) :
 Calls Tryz.prog 60 #[.string s] w fun e w' => e = .returned (.bool (bT s)) ∧ w = w' := by
 by_cases h0 : s.data.toList = []
 ·have h1 : s.toList = [] := by rw [Lib.toList_data]; exact h0
  have H2 : Hid (bT s = false) := by unfold bT; rw [h0]; rfl
  clear h0
  go_enter Tryz.func60, Tryz.ntmps60
  go_wp2
  go_ret
  exact ⟨aG H2.out.symm, rfl⟩
 have h1 : (!s.toList.isEmpty) = true := by rw [Lib.toList_data]; simpa using h0
 have h1' : ¬ s.toList = [] := by rw [Lib.toList_data]; exact h0
 obtain ⟨c, r, hcr⟩ : ∃ c r, s.data.toList = c :: r := by
  cases h : s.data.toList with
  | nil => exact absurd h h0
  | cons c r => exact ⟨c, r, rfl⟩
 have hsz : s.size = r.length + 1 := by
  have : s.size = s.data.toList.length := by simp
  rw [this, hcr]; rfl
 have hpos : 0 < s.size := by omega
 have H2 : Hid (bT s = (decide ((c :: r).length ≤ 16) && j5 c && (c :: r).all fG && !iA (c :: r))) := by unfold bT; rw [hcr]; rfl
 have hc0 : s[0] = c := by
  have h2 : s.data[0]? = some s[0] := by rw [Array.getElem?_eq_getElem (by simpa using hpos)]; rfl
  have : s.data.toList[0]? = some s[0] := by rw [Array.getElem?_toList]; exact h2
  rw [hcr] at this; simpa using this.symm
 have h3 : (((s.data.toList.takeWhile fG).length : Int) == (s.size : Int)) = (c :: r).all fG := by
  have h2 : s.size = s.data.toList.length := by simp
  have := Cc fG s.data.toList;rw [Bool.eq_iff_iff, ← hcr, ← this, h2]; simp only [beq_iff_eq]; omega
 have HSZ := Lib.hid hsz
 have HCR := Lib.hid hcr
 have HC0 := Lib.hid hc0
 generalize hall : (c :: r).all fG = ball at *
 have HW : Hid (iA (c :: r) = iA s.data.toList) := by rw [HCR.out]; rfl
 have HL : Hid ((c :: r).length = s.size) := by rw [HSZ.out]; rfl
 clear h0 hcr hsz hc0 hall
 go_enter Tryz.func60, Tryz.ntmps60
 go_wp2_with (first
  | (go_at_call 105; rw [HC0.out]; refine (A9 _ _).mono ?_; rintro e w' ⟨rfl, rfl⟩)
  | (go_at_call 106; refine (QJ _ hs _).mono ?_; rintro e w' ⟨rfl, rfl⟩)
  | (go_at_call 108; refine (Iu _ ?_ m _ hm).mono ?_; · omega
     rintro e w' ⟨rfl, rfl⟩))
 all_goals go_ret
 all_goals refine ⟨aG ?_, rfl⟩
 all_goals rw [H2.out, HW.out, HL.out]
 all_goals simp_all
 all_goals omega
theorem Py (s : ByteArray) : s.data.toList.length = s.size := rfl
theorem IW (s : ByteArray) (hpos : 0 < s.size) : bT s = (decide (s.size ≤ 16) && j5 s[0] && s.data.toList.all fG && !iA s.data.toList) := by
 have h2 : s.size = s.data.toList.length := by simp
 have h3 : s.data.toList[0]? = some s[0] := by rw [Array.getElem?_toList, Array.getElem?_eq_getElem (by simpa using hpos)]; rfl
 unfold bT;rw [h2];cases h : s.data.toList with
 | nil => rw [h] at h2; simp only [List.length_nil] at h2; omega
 | cons c r => rw [h] at h3; simp only [List.getElem?_cons_zero, Option.some.injEq] at h3; rw [← h3]
theorem dA (s : ByteArray) (hs : s.size ≤ maxS) (w : World) :
 Calls Tryz.prog 73 #[.string s] w fun e w' => e = .returned (.bool (bT s)) ∧ w = w' := by
 unfold maxS at hs
 by_cases hpos : 0 < s.size
 ·have H2 := Lib.hid (IW s hpos)
  by_cases hl : s.size ≤ 16
  ·cases hlt : j5 s[0] with
   | false =>
     have H3 : Hid (bT s = false) := by show bT s = false; rw [H2.out, hlt]; simp
     go_enter Tryz.func73, Tryz.ntmps73
     go_wp2_with (go_at_call 124; refine (pF _ _).mono ?_; rintro e w' ⟨rfl, rfl⟩)
     go_ret
     exact ⟨aG H3.out.symm, rfl⟩
   | true =>
     cases hwd : iA s.data.toList with
     | true =>
       have H3 : Hid (bT s = false) := by show bT s = false; rw [H2.out, hwd]; simp
       go_enter Tryz.func73, Tryz.ntmps73
       go_wp2_with (first
        | (go_at_call 124; refine (pF _ _).mono ?_; rintro e w' ⟨rfl, rfl⟩)
        | (go_at_call 125; refine (tQ _ _).mono ?_; rintro e w' ⟨rfl, rfl⟩))
       go_ret
       exact ⟨aG H3.out.symm, rfl⟩
     | false =>
       have H3 : Hid (bT s = s.data.toList.all fG) := by show bT s = _; rw [H2.out, hlt, hwd]; simp [hl]
       go_enter Tryz.func73, Tryz.ntmps73
       go_wp2_with (first
        | (go_at_call 124; refine (pF _ _).mono ?_; rintro e w' ⟨rfl, rfl⟩)
        | (go_at_call 125; refine (tQ _ _).mono ?_; rintro e w' ⟨rfl, rfl⟩))
       clear hlt hwd
       go_loop [3] (fun v3 => ∃ k : Nat, k ≤ s.size ∧ v3 = .int .i64 k ∧ s.data.toList.all fG = (s.data.toList.drop k).all fG) (fun v3 => s.size - (intOf v3).toNat)
       case atStart => exact ⟨0, by omega, rfl, rfl⟩
       case round =>
        obtain ⟨k, hk, rfl, hq⟩ := hrel;have HQ := Lib.hid hq;clear hq;by_cases hlt : k < s.size
        ·have HD : Hid (s.data.toList.drop k = s[k] :: s.data.toList.drop (k + 1)) := by
          have : s.data.toList.drop k = s[k] :: s.data.toList.drop (k + 1) := by rw [List.drop_eq_getElem_cons (by simpa using hlt)]; rfl
          exact this
         cases hw : fG s[k] with
         | false =>
           go_wp2_with (go_at_call 126; refine (Ap _ _).mono ?_; rintro e w' ⟨rfl, rfl⟩)
           go_ret
           refine ⟨aG ?_, rfl⟩;rw [H3.out, HQ.out, HD.out]; simp [hw]
         | true =>
           go_wp2_with (go_at_call 126; refine (Ap _ _).mono ?_; rintro e w' ⟨rfl, rfl⟩)
           go_round
           case rel => exact ⟨k + 1, by omega, by go_num, by rw [HQ.out, HD.out]; simp [hw]⟩
           case measure => simp [intOf]; omega
        ·have HD : Hid (s.data.toList.drop k = []) := List.drop_of_length_le (by simpa using hlt);go_wp2;go_ret
         refine ⟨aG ?_, rfl⟩;rw [H3.out, HQ.out, HD.out]; rfl
  ·go_enter Tryz.func73, Tryz.ntmps73
   go_wp2
   all_goals go_ret
   all_goals refine ⟨aG ?_, rfl⟩
   all_goals rw [H2.out]; simp [hl]
 ·have H2 : Hid (bT s = false) := by
   have h2 : s.data.toList = [] := by
    have : s.data.toList.length = 0 := by rw [Py]; omega
    exact List.length_eq_zero_iff.1 this
   unfold bT; rw [h2]; rfl
  go_enter Tryz.func73, Tryz.ntmps73
  go_wp2
  all_goals go_ret
  all_goals exact ⟨aG H2.out.symm, rfl⟩
end Go.Proofs.YtgaipdillmleeaaGreat
end
