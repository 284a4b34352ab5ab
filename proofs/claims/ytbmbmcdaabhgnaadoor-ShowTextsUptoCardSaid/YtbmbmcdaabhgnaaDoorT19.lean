/- Joined by my own program, in build order: Dg. -/
import Derived.Test.YtbmbmcdaabhgnaaDoorT1
import Derived.WalkSpells
import Derived.Handy
import Derived.Tactics
import Derived.Tactics2
import Derived.Lib.ItoaNum
import Derived.Laws.IdiomStrings
import Derived.Lib.ItoaLen
set_option linter.unusedVariables false
set_option linter.unusedSimpArgs false
section
set_option linter.unusedVariables false
set_option linter.unusedSimpArgs false
namespace Go.Proofs.YtbmbmcdaabhgnaaDoor
open Go.RowKit
theorem alloc_get (w : World) (o : Obj) : (w.alloc o).heap[w.heap.size]? = some o := by
  show (w.heap.push o)[w.heap.size]? = some o
  simp
theorem conv_one (w : World) (x : UInt8) : Sem.run Tryd.prog (convert 43 9 (Value.slice (some ⟨w.heap.size, 0, none⟩) 1 1)) (w.alloc (Obj.cells #[Value.int IntKind.u8 ((x.toNat : Nat) : Int)] 5)) = .ok (.string ⟨#[x]⟩) (w.alloc (Obj.cells #[Value.int IntKind.u8 ((x.toNat : Nat) : Int)] 5)) :=
  run_convert_bytes_back (P := Tryd.prog) (w.alloc (Obj.cells #[Value.int IntKind.u8 ((x.toNat : Nat) : Int)] 5)) 43 9 5 ⟨w.heap.size, 0, none⟩ 1 [x] Tryd.underlying43 Tryd.underlying5 Tryd.underlying9 (fun j hj => by
    have hj : j = 0 := by simpa using hj
    subst hj
    rw [show (⟨w.heap.size, 0, none⟩ : Addr).add 0 = ⟨w.heap.size, 0, none⟩ by simp [Addr.add]]
    unfold World.cell?
    rw [alloc_get]
    rfl)
theorem app_bytes (a b : List UInt8) : (⟨a.toArray⟩ : ByteArray) ++ ⟨b.toArray⟩ = ⟨(a ++ b).toArray⟩ := by
  apply ByteArray.ext
  simp
theorem dig_byte (u : Nat) : ∃ x : UInt8, (48 : Int) + (u : Int) % 10 = ((x.toNat : Nat) : Int) ∧ x = UInt8.ofNat (48 + u % 10) := by
  refine ⟨_, ?_, rfl⟩
  have : u % 10 < 10 := Nat.mod_lt _ (by decide)
  rw [UInt8.toNat_ofNat']
  omega
set_option maxRecDepth 100000 in
theorem digits_any : ∀ (z u : Nat), u ≤ z → u < 18446744073709551616 → ∀ w : World, Calls Tryd.prog 71 #[.int .u64 u] w fun e w' => e = .returned (.string ⟨(Lib.decDigits u).toArray⟩) ∧ Below w.heap.size w w' := by
  intro z
  induction z using Nat.strongRecOn with
  | ind z ih =>
  intro u hz hu w
  obtain ⟨x, hx, hd⟩ := dig_byte u
  by_cases h10 : u < 10
  · have hD : Lib.decDigits u = [x] := by
      rw [Lib.decDigits, dif_pos h10, hd, Nat.mod_eq_of_lt h10]
    rw [hD]
    clear hD ih hd
    go_enter Tryd.func71, Tryd.ntmps71
    go_wp2_with fail
    rw [conv_one]
    go_wp2_with fail
    go_ret
    exact ⟨rfl, by go_grown⟩
  · have hD : Lib.decDigits u = Lib.decDigits (u / 10) ++ [x] := by
      rw [Lib.decDigits, dif_neg h10, hd]
    rw [hD]
    have IH := Lib.hid (ih (u / 10) (by omega) (u / 10) (Nat.le_refl _) (by omega))
    clear hD ih hd
    go_enter Tryd.func71, Tryd.ntmps71
    go_wp2_with fail
    rw [conv_one]
    go_wp2_with fail
    have e10 : ((u : Int) / 10) = ((u / 10 : Nat) : Int) := by omega
    rw [e10]
    refine (IH.out _).mono ?_
    rintro e w1 ⟨rfl, hb⟩
    have HB : Hid (Below w.heap.size w w1) := afterCall (by go_grown) hb
    have hlen : (Lib.decDigits (u / 10)).length ≤ 21 := by
      have h1 := Lib.itoa_length_le ((u / 10 : Nat) : Int) (by omega) (by omega)
      rw [Lib.itoa, if_neg (by omega), Int.toNat_natCast] at h1
      exact h1
    clear hb
    dsimp only
    go_wp2
    go_ret
    refine ⟨?_, HB.out⟩
    rw [app_bytes]
    rfl
end Go.Proofs.YtbmbmcdaabhgnaaDoor
end
