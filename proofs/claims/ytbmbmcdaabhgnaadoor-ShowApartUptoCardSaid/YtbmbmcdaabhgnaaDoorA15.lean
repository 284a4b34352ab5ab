/- Joined by my own program, in build order: Tx. -/
import Derived.Test.YtbmbmcdaabhgnaaDoorA11
import Derived.Test.YtbmbmcdaabhgnaaDoorA14
set_option linter.unusedVariables false
set_option linter.unusedSimpArgs false
section
set_option linter.unusedVariables false
set_option linter.unusedSimpArgs false
namespace Go.Proofs.YtbmbmcdaabhgnaaDoor
namespace V
open Go.RowKit
def tabX (t : Nat) : List UInt8 := List.replicate t 9
def brcX (t : Nat) (a : List UInt8) : List UInt8 := [123, 10] ++ a ++ tabX t ++ [125]
def exprI (es : List Expr) (i : Nat) : List UInt8 := match es[i]? with | some e => exprX e 1 | none => []
def bodyS (k n : Int) (ty nm : List UInt8) (es : List Expr) (t : Nat) (a b : List UInt8) (el : Bool) : List UInt8 :=
  if k = 1 then ty ++ [32] ++ nm ++ (if es.isEmpty then [] else [32, 61, 32] ++ listE es) ++ [59, 10]
  else if k = 2 then exprI es 0 ++ [32, 61, 32] ++ exprI es 1 ++ [59, 10]
  else if k = 3 ∨ k = 4 then (if k = 3 then [105, 102, 32, 40] else [119, 104, 105, 108, 101, 32, 40]) ++ listE es ++ [41, 32] ++ brcX t a ++ (if el then [] else [32, 101, 108, 115, 101, 32] ++ brcX t b) ++ [10]
  else if k = 5 then [112, 114, 105, 110, 116, 40] ++ Lib.itoa n ++ [44, 32] ++ listE es ++ [41] ++ [59, 10]
  else if k = 6 then [114, 101, 116, 117, 114, 110, 32] ++ listE es ++ [59, 10]
  else listE es ++ [59, 10]
mutual
def stmtX : Stmt → Nat → List UInt8
  | ⟨k, n, ty, nm, es, th, el⟩, t => tabX t ++ bodyS k n ty.data.toList nm.data.toList es t (stmtsX th (t + 1)) (stmtsX el (t + 1)) el.isEmpty
def stmtsX : List Stmt → Nat → List UInt8
  | [], _ => []
  | s :: l, t => stmtX s t ++ stmtsX l t
end
theorem stmtsX_flat (l : List Stmt) (t : Nat) : stmtsX l t = l.flatMap fun s => stmtX s t := by
  induction l with
  | nil => simp [stmtsX]
  | cons s l ih => simp [stmtsX, ih]
theorem stmtsX_app (a b : List Stmt) (t : Nat) : stmtsX (a ++ b) t = stmtsX a t ++ stmtsX b t := by
  rw [stmtsX_flat, stmtsX_flat, stmtsX_flat, List.flatMap_append]
theorem stmtsX_take {l : List Stmt} {k : Nat} {s : Stmt} (h : l[k]? = some s) (t : Nat) : stmtsX (l.take (k + 1)) t = stmtsX (l.take k) t ++ stmtX s t := by
  rw [List.take_add_one, h, stmtsX_app]
  simp [stmtsX]
theorem stmtsX_le (l : List Stmt) (k t : Nat) : (stmtsX (l.take k) t).length ≤ (stmtsX l t).length := by
  have : stmtsX l t = stmtsX (l.take k) t ++ stmtsX (l.drop k) t := by rw [← stmtsX_app, List.take_append_drop]
  rw [this, List.length_append]; omega
def slotX (s : Slot) : List UInt8 := s.type.data.toList ++ [32] ++ s.name.data.toList
def fieldX (s : Slot) : List UInt8 := [9] ++ slotX s ++ [59, 10]
def methX (m : Method) : List UInt8 := [9] ++ m.type.data.toList ++ [32] ++ m.name.data.toList ++ [40] ++ commaX (m.params.map slotX) ++ [41, 32] ++ brcX 1 (stmtsX m.body 2) ++ [10]
def classX (c : Class) : List UInt8 := [99, 108, 97, 115, 115, 32] ++ c.name.data.toList ++ (if c.super.data.toList.isEmpty then [] else [32, 101, 120, 116, 101, 110, 100, 115, 32] ++ c.super.data.toList) ++ [32, 123, 10] ++
  c.fields.flatMap fieldX ++ c.methods.flatMap methX ++ [125, 10]
def progX (p : Program) : List UInt8 := p.classes.flatMap classX ++ [109, 97, 105, 110, 32] ++ brcX 0 (stmtsX p.main 1) ++ [10]
mutual
def cntS : Stmt → Nat
  | ⟨_, _, _, _, es, th, el⟩ => 1 + cntEs es + cntSs th + cntSs el
def cntSs : List Stmt → Nat
  | [] => 0
  | s :: l => cntS s + cntSs l
end
theorem cntSs_len : ∀ l : List Stmt, l.length ≤ cntSs l
  | [] => by simp
  | ⟨_, _, _, _, es, th, el⟩ :: l => by have := cntSs_len l; simp only [cntSs, cntS, List.length_cons]; omega
theorem cntS_mem : ∀ {l : List Stmt} {y : Stmt}, y ∈ l → cntS y ≤ cntSs l
  | x :: l, y, h => by
    simp only [cntSs]
    rcases List.mem_cons.1 h with rfl | h
    · omega
    · have := cntS_mem h; omega
theorem name_len {nm : ByteArray} (h : isNameB nm = true) : nm.data.toList.length ≤ 16 := by
  unfold isNameB at h
  split at h
  · cases h
  · rename_i c r e
    rw [e]
    simp only [Bool.and_eq_true, decide_eq_true_eq] at h
    exact h.1.1.1
theorem exprI_two : ∀ es : List Expr, (exprI es 0).length + (exprI es 1).length ≤ sumX es
  | [] => by simp [exprI]
  | [x] => by have := exprX_le x 1; simp [exprI, sumX]; omega
  | x :: y :: l => by have := exprX_le x 1; have := exprX_le y 1; simp [exprI, sumX]; omega
theorem loopX (bs : ByteArray) : ∀ (n i : Nat) (r : List UInt8), bs.size - i = n → ByteArray.toList.loop bs i r = r.reverse ++ bs.data.toList.drop i
  | 0, i, r, h => by
    unfold ByteArray.toList.loop
    rw [if_neg (by omega), List.drop_eq_nil_of_le (by rw [Array.length_toList]; show bs.size ≤ i; omega)]; simp
  | n + 1, i, r, h => by
    have hi : i < bs.size := by omega
    unfold ByteArray.toList.loop
    rw [if_pos hi, loopX bs n (i + 1) _ (by omega)]
    have hl : i < bs.data.toList.length := by rw [Array.length_toList]; exact hi
    rw [List.drop_eq_getElem_cons hl]
    have : bs.get! i = bs.data.toList[i] := by
      have hi' : i < bs.data.size := hi
      show bs.data[i]! = _
      rw [getElem!_pos bs.data i hi']; simp
    rw [this]; simp
theorem toListX (s : ByteArray) : s.toList = s.data.toList := by
  unfold ByteArray.toList
  rw [loopX s _ 0 [] rfl]; simp
theorem type_len {s : ByteArray} (h : isTypeB s = true) : s.data.toList.length ≤ 16 := by
  unfold isTypeB at h
  simp only [Bool.or_eq_true, beq_iff_eq] at h
  rcases h with (h | h) | h
  · rw [h]; decide
  · rw [h]; decide
  · exact name_len h
theorem stmt_facts {k n : Int} {ty nm : ByteArray} {es : List Expr} {th el : List Stmt} (h : stmtB ⟨k, n, ty, nm, es, th, el⟩ = true) :
    (1 ≤ k ∧ k ≤ 7) ∧ (es.length = if k = 1 then min es.length 1 else if k = 2 then 2 else 1) ∧ (k = 1 → isTypeB ty = true ∧ isNameB nm = true) ∧ (0 ≤ n ∧ n ≤ 99) ∧ (k ≠ 3 → k ≠ 4 → th = []) ∧ (k ≠ 3 → el = []) ∧
      (∀ x ∈ es, exprB x = true) ∧ (∀ x ∈ th, stmtB x = true) ∧ ∀ x ∈ el, stmtB x = true := by
  rw [stmtB_eq] at h
  unfold stmtTop at h
  simp only [Bool.and_eq_true, decide_eq_true_eq, List.all_eq_true, Bool.or_eq_true, beq_iff_eq, List.isEmpty_iff] at h
  obtain ⟨⟨⟨⟨⟨⟨⟨⟨⟨⟨h1, h2⟩, h3⟩, h4⟩, h5⟩, h6⟩, h7⟩, h8⟩, -⟩, h9⟩, h10⟩ := h
  have hk : 1 ≤ k ∧ k ≤ 7 := by
    unfold exprsOf at h1
    split at h1
    · omega
    · split at h1
      · omega
      · split at h1
        · omega
        · exact absurd h1 (by decide)
  refine ⟨hk, ?_, fun e => ?_, ?_, fun e1 e2 => ?_, fun e => ?_, h8, h9, h10⟩
  · unfold exprsOf at h2 h3
    by_cases e1 : k = 1
    · rw [if_pos e1] at h2 h3; rw [if_pos e1]; simp only at h3; omega
    · rw [if_neg e1] at h2 h3; rw [if_neg e1]
      by_cases e2 : k = 2
      · rw [if_pos e2] at h2 h3; rw [if_pos e2]; simp only at h2 h3; omega
      · rw [if_neg e2] at h2 h3; rw [if_neg e2]
        rw [if_pos (by omega)] at h2 h3; simp only at h2 h3; omega
  · rw [if_pos e] at h4
    simpa using h4
  · by_cases e5 : k = 5
    · rw [if_pos e5] at h5; simpa using h5
    · rw [if_neg e5] at h5
      have : n = 0 := by simpa using h5
      omega
  · rcases h6 with (h6 | h6) | h6
    · exact absurd h6 e1
    · exact absurd h6 e2
    · exact h6
  · rcases h7 with h7 | h7
    · exact absurd h7 e
    · exact h7
theorem tabX_len (t : Nat) : (tabX t).length = t := by simp [tabX]
theorem bodyS_len {k n : Int} {ty nm : List UInt8} {es : List Expr} {t : Nat} {a b : List UInt8} {el : Bool} (hn : (Lib.itoa n).length ≤ 21) (h1 : k = 1 → ty.length ≤ 16 ∧ nm.length ≤ 16) :
    (bodyS k n ty nm es t a b el).length ≤ 40 + sumX es + 2 * t + a.length + b.length := by
  have hl := listE_le es
  have h2 := exprI_two es
  unfold bodyS
  by_cases e1 : k = 1
  · obtain ⟨q1, q2⟩ := h1 e1
    rw [if_pos e1]
    split <;> simp only [List.length_append, List.length_cons, List.length_nil] <;> omega
  rw [if_neg e1]
  by_cases e2 : k = 2
  · rw [if_pos e2]; simp only [List.length_append, List.length_cons, List.length_nil]; omega
  rw [if_neg e2]
  by_cases e3 : k = 3 ∨ k = 4
  · rw [if_pos e3]
    unfold brcX
    split <;> split <;> simp only [List.length_append, List.length_cons, List.length_nil, tabX_len] <;> omega
  rw [if_neg e3]
  by_cases e5 : k = 5
  · rw [if_pos e5]; simp only [List.length_append, List.length_cons, List.length_nil]; omega
  rw [if_neg e5]
  by_cases e6 : k = 6
  · rw [if_pos e6]; simp only [List.length_append, List.length_cons, List.length_nil]; omega
  rw [if_neg e6]
  simp only [List.length_append, List.length_cons, List.length_nil]; omega
mutual
theorem stmtX_len : ∀ (s : Stmt) (t K : Nat), stmtB s = true → 80 + 3 * (t + cntS s) ≤ K → (stmtX s t).length ≤ cntS s * K
  | ⟨k, n, ty, nm, es, th, el⟩, t, K, h, hK => by
    obtain ⟨-, -, f1, f2, -, -, fe, ft, fl⟩ := stmt_facts h
    simp only [cntS] at hK
    have ha := stmtsX_len th (t + 1) K (by rw [stmtsB_all, List.all_eq_true]; exact ft) (by omega)
    have hb := stmtsX_len el (t + 1) K (by rw [stmtsB_all, List.all_eq_true]; exact fl) (by omega)
    have he := sumX_len es (by rw [exprsB_all, List.all_eq_true]; exact fe)
    have hB := bodyS_len (k := k) (n := n) (ty := ty.data.toList) (nm := nm.data.toList) (es := es) (t := t) (a := stmtsX th (t + 1)) (b := stmtsX el (t + 1)) (el := el.isEmpty) (Lib.itoa_length_le n (by omega) (by omega)) (fun e => ⟨type_len (f1 e).1, name_len (f1 e).2⟩)
    have hk : cntEs es * 64 ≤ cntEs es * K := Nat.mul_le_mul_left _ (by omega)
    simp only [stmtX, List.length_append, tabX_len, cntS, Nat.add_mul, Nat.one_mul]
    omega
theorem stmtsX_len : ∀ (l : List Stmt) (t K : Nat), stmtsB l = true → 80 + 3 * (t + cntSs l) ≤ K → (stmtsX l t).length ≤ cntSs l * K
  | [], t, K, _, _ => by simp [stmtsX]
  | s :: l, t, K, h, hK => by
    simp only [stmtsB, Bool.and_eq_true] at h
    simp only [cntSs] at hK
    have h1 := stmtX_len s t K h.1 (by omega)
    have h2 := stmtsX_len l t K h.2 (by omega)
    simp only [stmtsX, List.length_append, cntSs, Nat.add_mul]
    omega
end
def cntM (m : Method) : Nat := 1 + m.params.length + cntSs m.body
def cntC (c : Class) : Nat := 1 + c.fields.length + (c.methods.map cntM).sum
def cntP (p : Program) : Nat := (p.classes.map cntC).sum + cntSs p.main
theorem flatX_len {α : Type} (f : α → List UInt8) (g : α → Nat) (K : Nat) : ∀ l : List α, (∀ x ∈ l, (f x).length ≤ g x * K) → (l.flatMap f).length ≤ (l.map g).sum * K
  | [], _ => by simp
  | x :: l, h => by
    have h1 := h x (by simp)
    have h2 := flatX_len f g K l (fun y hy => h y (by simp [hy]))
    simp only [List.flatMap_cons, List.length_append, List.map_cons, List.sum_cons, Nat.add_mul]
    omega
theorem sumX_mem {α : Type} (g : α → Nat) : ∀ (l : List α) (x : α), x ∈ l → g x ≤ (l.map g).sum
  | y :: l, x, h => by
    simp only [List.map_cons, List.sum_cons]
    rcases List.mem_cons.1 h with rfl | h
    · omega
    · have := sumX_mem g l x h; omega
theorem sumX_one {α : Type} : ∀ l : List α, (l.map fun _ => 1).sum = l.length
  | [] => rfl
  | x :: l => by rw [List.map_cons, List.sum_cons, sumX_one l, List.length_cons]; omega
theorem slotX_len {s : Slot} (h : slotB s = true) : (slotX s).length ≤ 33 := by
  unfold slotB at h
  simp only [Bool.and_eq_true] at h
  have := type_len h.1
  have := name_len h.2
  simp only [slotX, List.length_append, List.length_cons, List.length_nil]
  omega
theorem commaX_len : ∀ l : List (List UInt8), (∀ x ∈ l, x.length ≤ 33) → (commaX l).length ≤ l.length * 35
  | [], _ => by simp [commaX]
  | [a], h => by have := h a (by simp); simp only [commaX, List.length_cons, List.length_nil]; omega
  | a :: b :: l, h => by
    have h1 := h a (by simp)
    have h2 := commaX_len (b :: l) (fun y hy => h y (by simp [hy]))
    simp only [List.length_cons] at h2
    simp only [commaX, List.length_append, List.length_cons]
    omega
theorem methX_len {m : Method} (h : methodB m = true) {K : Nat} (hK : 1000 + 3 * (2 + cntM m) ≤ K) : (methX m).length ≤ cntM m * K := by
  unfold methodB at h
  simp only [Bool.and_eq_true, decide_eq_true_eq, List.all_eq_true, slotB] at h
  obtain ⟨⟨⟨⟨h1, h2⟩, h3⟩, h4⟩, h5⟩ := h
  have q1 := type_len h1
  have q2 := name_len h2
  have q3 := commaX_len (m.params.map slotX) (fun x hx => by
    obtain ⟨s, hs, rfl⟩ := List.mem_map.1 hx
    exact slotX_len (by unfold slotB; simpa using h4 s hs))
  rw [List.length_map] at q3
  unfold cntM at hK
  have q4 := stmtsX_len m.body 2 K (by rw [stmtsB_all, List.all_eq_true]; exact h5) (by omega)
  have q5 : m.params.length * 35 ≤ m.params.length * K := Nat.mul_le_mul_left _ (by omega)
  have q1 : m.type.data.toList.length ≤ 16 := q1
  have q2 : m.name.data.toList.length ≤ 16 := q2
  simp only [methX, brcX, List.length_append, List.length_cons, List.length_nil, tabX_len, cntM, Nat.add_mul, Nat.one_mul]
  omega
theorem classX_len {c : Class} (h : classB c = true) {K : Nat} (hK : 1000 + 3 * (2 + cntC c) ≤ K) : (classX c).length ≤ cntC c * K := by
  unfold classB classTop at h
  simp only [Bool.and_eq_true, Bool.or_eq_true, List.all_eq_true] at h
  obtain ⟨⟨⟨h1, h2⟩, h3⟩, h4⟩ := h
  have q1 := name_len h1
  have q2 : ¬ (c.super.data.toList.isEmpty = true) → c.super.data.toList.length ≤ 16 := fun hne => by
    rcases h2 with h2 | h2
    · exact absurd (by have e := toListX c.super; rw [e] at h2; exact h2) hne
    · exact name_len h2
  unfold cntC at hK
  have q3 : (c.fields.flatMap fieldX).length ≤ (c.fields.map fun _ => 1).sum * K := flatX_len fieldX (fun _ => 1) K c.fields (fun s hs => by
    have := slotX_len (h3 s hs)
    simp only [fieldX, List.length_append, List.length_cons, List.length_nil]
    omega)
  have q4 : (c.fields.map fun _ => 1).sum = c.fields.length := sumX_one c.fields
  have q5 : (c.methods.flatMap methX).length ≤ (c.methods.map cntM).sum * K := flatX_len methX cntM K c.methods (fun m hm => methX_len (h4 m hm) (by
    have := sumX_mem cntM c.methods m hm
    omega))
  rw [q4] at q3
  simp only [classX, List.length_append, List.length_cons, List.length_nil, cntC, Nat.add_mul, Nat.one_mul]
  split
  · (try simp only [List.length_nil]); omega
  · rename_i hne
    have := q2 hne
    simp only [List.length_append, List.length_cons, List.length_nil]; omega
theorem progX_len {p : Program} (h : checkB p = true) (hc : cntP p ≤ 1048576) : (progX p).length ≤ 10000000000000 := by
  unfold checkB at h
  simp only [Bool.and_eq_true, List.all_eq_true] at h
  obtain ⟨h1, h2⟩ := h
  unfold cntP at hc
  have q1 := flatX_len classX cntC 4000000 p.classes (fun c hcc => classX_len (h2 c hcc) (by
    have := sumX_mem cntC p.classes c hcc
    omega))
  have q2 := stmtsX_len p.main 1 4000000 (by rw [stmtsB_all, List.all_eq_true]; exact h1) (by omega)
  simp only [progX, brcX, List.length_append, List.length_cons, List.length_nil, tabX_len]
  omega
end V
end Go.Proofs.YtbmbmcdaabhgnaaDoor
end
