/- Joined by my own program, in build order: Check, CheckR, Index, OwnG, Names1, Once, Alike, Cfn, Range, Up, Round, Vs, Vu, Vw, VUp. -/
import Derived.Test.YtjciafpihdbedaaZ4
import Derived.Test.YtjciafpihdbedaaChecked
import Derived.WalkKit
import Derived.ProofKit
import Derived.Laws.AppendOwn
import Derived.Deep.AppendLies
import Derived.OwnWalk
import Derived.Deep.OwnRows
import Derived.Maps.OwnOps
import Derived.Maps.OwnSet
import Derived.Maps.Ext
import Derived.Carry
import Derived.Test.YtjciafpihdbedaaZ2
import Derived.Test.YtjciafpihdbedaaZ3
import Derived.RangeFuncNested
import Derived.RangeFuncBound
import Derived.RangeFuncCalls
import Derived.RangeFuncLeaves
import Derived.Shelf.Abstract
import Derived.Shelf.RegionOpen
import Derived.OwnWalkIn
import Derived.TacticsInMore
import Derived.LoopNIn
import Derived.LoopIn
import Derived.OrdersIn
import Derived.OrdersHeld
import Derived.TacticsIn
import Derived.Deep.Quiet
import Derived.Sort.LoopGhostIn
set_option linter.unusedVariables false
set_option linter.unusedSimpArgs false
section
/- show.Check and the reference's Check. -/
namespace Go.Proofs.Ytjciafpihdbedaa
open Go.RowKit

def methodB (m : Method) : Bool := slotB ⟨m.type, m.name⟩ && decide (m.params.length ≤ 4) && m.params.all slotB && m.body.all stmtB
def classTop (c : Class) : Bool := isNameB c.name && (c.super.toList.isEmpty || isNameB c.super) && c.fields.all slotB
def classB (c : Class) : Bool := classTop c && c.methods.all methodB
def checkB (p : Program) : Bool := p.main.all stmtB && p.classes.all classB

/-- ErrTree or OK. -/
def treeErr (b : Bool) : Int := match b with | true => 0 | false => 30

theorem all_take_succ {α : Type} {l : List α} {p : α → Bool} {k : Nat} {y : α} (h : l[k]? = some y) : (l.take (k + 1)).all p = ((l.take k).all p && p y) := by
  rw [List.take_add_one, h, List.all_append]; simp

set_option maxHeartbeats 8000000 in
theorem check_any (d : Nat) (w : World) (v : Value) (p : Program) (hM : HasMax w) (hp : RProgram d w (· < w.heap.size) v p) :
    Calls Try.prog 22 #[v] w fun e w' => e = .returned (.int .i64 (treeErr (checkB p))) ∧ Below w.heap.size w w' := by
  obtain ⟨cv, mv, rfl, hC, hS⟩ := hp
  obtain ⟨ca, cn, ccap, rfl, hn, hcap, hmax, hel⟩ := hC
  obtain ⟨ma, mn, mcap, rfl⟩ := RSl.shape hS
  have H := Lib.hid hel
  have HN := Lib.hid hn
  have HS := Lib.hid hS
  have HM := Lib.hid hM
  unfold maxC at hmax
  clear hel hn hS hM
  go_enter Try.func22, Try.ntmps22
  go_wp2_with fail
  refine (stmts_any d _ _ p.main (HM.out.keep (by go_grown)) (HS.out.mono (fun k hk => by simp; omega) (fun k hk => by rw [Below.heap_alloc _ _ _ hk]))).mono ?_
  rintro e w1 ⟨rfl, hb1⟩
  have HB1 : Hid (Below w.heap.size w w1) := afterCall (by go_grown) hb1
  have k0 : w1.cell? ⟨w.heap.size, 0, none⟩ = some (.slice ca cn ccap) := by rw [hb1.cell (by simp)]; simp
  clear hb1
  go_wp2
  go_loopw [3, 14] (fun v3 v14 w' => ∃ j : Nat, j ≤ cn ∧ v14 = .int .i64 j ∧ (∃ g : Bool, v3 = .bool g ∧ Hid (g = (p.main.all stmtB && (p.classes.take j).all classB))) ∧ Hid (Below w.heap.size w w')) (fun _ v14 _ => cn - (intOf v14).toNat)
  case atStart => exact ⟨0, by omega, rfl, ⟨_, rfl, by show _ = _; simp⟩, HB1⟩
  case round =>
    obtain ⟨j, hj, rfl, ⟨g, rfl, HGJ⟩, HB⟩ := hrel
    by_cases hlt : j < cn
    · obtain ⟨x, hx⟩ : ∃ x, p.classes[j]? = some x := ⟨_, List.getElem?_eq_getElem (by rw [HN.out]; exact hlt)⟩
      have HX := Lib.hid hx
      clear hx
      obtain ⟨b, off, cs, rfl, hbl, hc, fv, mv, rfl, wn, wu, hf, hm⟩ := H.out j _ HX.out
      have HF := Lib.hid hf
      obtain ⟨fa, fn, fcap, rfl⟩ := RSl.shape hf
      obtain ⟨a, n, cap, rfl, hn, hcap1, hmax1, hel⟩ := hm
      obtain ⟨c0, c1, c2, c3, -⟩ := cellsAt_of_block (HB.out.block b hbl) hc
      have H2 := Lib.hid hel
      have HN2 := Lib.hid hn
      unfold maxC at hmax1
      clear hel hn hf hc
      obtain ⟨wo, rfl⟩ : ∃ wo : World, wo = wr := ⟨_, rfl⟩
      obtain ⟨G, hGD⟩ : ∃ G, G = (p.main.all stmtB && (p.classes.take j).all classB && classTop x) := ⟨_, rfl⟩
      have HGD := Lib.hid hGD
      clear hGD
      cases g with
      | false =>
        have HG : Hid (G = false) := by show G = false; rw [HGD.out, ← HGJ.out]; rfl
        have HBI : Hid (∀ X, Hid (Below w.heap.size w (wo.alloc X))) := fun X => HB.out.alloc HB.out.size X
        have HBI := HBI.out
        go_wp2
        go_loopw [3, 42] (fun v3 v42 w' => ∃ k : Nat, k ≤ n ∧ v42 = .int .i64 k ∧ (∃ gk : Bool, v3 = .bool gk ∧ Hid (gk = (G && (x.methods.take k).all methodB))) ∧ Hid (Below w.heap.size w w')) (fun _ v42 _ => n - (intOf v42).toNat)
        case atStart => exact ⟨0, by omega, rfl, ⟨false, rfl, by show false = _; rw [HG.out]; simp⟩, HBI _⟩
        case round =>
          obtain ⟨k, hk, rfl, ⟨gk, rfl, HGK⟩, HBR⟩ := hrel
          by_cases hlt2 : k < n
          · obtain ⟨y, hy⟩ : ∃ y, x.methods[k]? = some y := ⟨_, List.getElem?_eq_getElem (by rw [HN2.out]; exact hlt2)⟩
            have HY := Lib.hid hy
            clear hy
            obtain ⟨b', off', cs', rfl, hbl', hc, pv, bv, rfl, wt, ws, hpv, hbv⟩ := H2.out k _ HY.out
            have HPV := Lib.hid hpv
            have HBV := Lib.hid hbv
            obtain ⟨pa, pn, pcap, rfl, hpn, hpc, hpm, -⟩ := hpv
            obtain ⟨ba, bn, bcap, rfl⟩ := RSl.shape hbv
            obtain ⟨e0, e1, e2, e3, -⟩ := cellsAt_of_block (HBR.out.block b' hbl') hc
            have HPN := Lib.hid hpn
            unfold maxC at hpm
            clear hbv hc hpn
            cases gk with
            | false =>
              have HBE : Hid (∀ X, Below w.heap.size w (wr.alloc X)) := fun X => HBR.out.alloc HBR.out.size X
              have HGN : Hid (false = (G && (x.methods.take (k + 1)).all methodB)) := by
                show false = _
                rw [all_take_succ HY.out, ← Bool.and_assoc, ← HGK.out]; rfl
              go_wp2
              refine ⟨?_, by simp [intOf]; omega⟩
              first
                | exact ⟨k + 1, by omega, by go_num, ⟨false, rfl, HGN⟩, HBE.out _⟩
                | ((repeat apply Exists.intro)
                   refine ⟨⟨k + 1, by omega, ?_, ⟨false, rfl, HGN⟩, HBE.out _⟩, rfl⟩
                   go_num)
            | true =>
              have HBA : Hid (∀ X, Below w.heap.size w (wr.alloc X)) := fun X => HBR.out.alloc HBR.out.size X
              go_wp2_with fail
              refine (slot_any _ _ wt ws _ (HM.out.keep (HBA.out _))).mono ?_
              rintro e w1 ⟨rfl, hb1⟩
              have HBE : Hid (Below w.heap.size w w1) := afterCall (HBA.out _) hb1
              have q2 : w1.cell? ⟨wr.heap.size, 2, none⟩ = some (.slice pa pn pcap) := (hb1.cell (by simp)).trans (by simp)
              have q3 : w1.cell? ⟨wr.heap.size, 3, none⟩ = some (.slice ba bn bcap) := (hb1.cell (by simp)).trans (by simp)
              clear hb1 e0 e1 e2 e3 HBA
              cases h1 : slotB ⟨y.type, y.name⟩ with
              | false =>
                have HGN : Hid (false = (G && (x.methods.take (k + 1)).all methodB)) := by
                  show false = _
                  rw [all_take_succ HY.out, ← Bool.and_assoc, ← HGK.out]
                  simp [methodB, *]
                go_wp2
                refine ⟨?_, by simp [intOf]; omega⟩
                first
                  | exact ⟨k + 1, by omega, by go_num, ⟨false, rfl, HGN⟩, HBE⟩
                  | ((repeat apply Exists.intro)
                     refine ⟨⟨k + 1, by omega, ?_, ⟨false, rfl, HGN⟩, HBE⟩, rfl⟩
                     go_num)
              | true =>
                by_cases hp4 : pn ≤ 4
                · have h2 : decide (y.params.length ≤ 4) = true := by rw [HPN.out]; simp [hp4]
                  have H2' := Lib.hid h2
                  clear h2
                  go_wp2_with fail
                  refine (slots_any w1 (HM.out.keep HBE.out) _ y.params (HPV.out.mono (fun k hk => Nat.lt_of_lt_of_le hk HBE.out.size) (fun k hk => HBE.out.block k hk))).mono ?_
                  rintro e w2 ⟨rfl, hb2⟩
                  have HBE1 := HBE
                  clear HBE
                  have HBE := nextB hb2 HBE1
                  have r3 := next (o := 3) hb2 q3
                  clear hb2 q2 q3 HBE1
                  cases h3 : y.params.all slotB with
                  | false =>
                    have h2 := H2'.out
                    have HGN : Hid (false = (G && (x.methods.take (k + 1)).all methodB)) := by
                      show false = _
                      rw [all_take_succ HY.out, ← Bool.and_assoc, ← HGK.out]
                      simp [methodB, *]
                    go_wp2
                    refine ⟨?_, by simp [intOf]; omega⟩
                    first
                      | exact ⟨k + 1, by omega, by go_num, ⟨false, rfl, HGN⟩, HBE⟩
                      | ((repeat apply Exists.intro)
                         refine ⟨⟨k + 1, by omega, ?_, ⟨false, rfl, HGN⟩, HBE⟩, rfl⟩
                         go_num)
                  | true =>
                    go_wp2_with fail
                    refine (stmts_any d w2 _ y.body (HM.out.keep HBE.out) (HBV.out.mono (fun k hk => Nat.lt_of_lt_of_le hk HBE.out.size) (fun k hk => HBE.out.block k hk))).mono ?_
                    rintro e w3 ⟨rfl, hb3⟩
                    have HBE1 := HBE
                    clear HBE
                    have HBE := nextB hb3 HBE1
                    clear hb3 r3 HBE1
                    cases h4 : y.body.all stmtB with
                    | false =>
                      have h2 := H2'.out
                      have HGN : Hid (false = (G && (x.methods.take (k + 1)).all methodB)) := by
                        show false = _
                        rw [all_take_succ HY.out, ← Bool.and_assoc, ← HGK.out]
                        simp [methodB, *]
                      go_wp2
                      refine ⟨?_, by simp [intOf]; omega⟩
                      first
                        | exact ⟨k + 1, by omega, by go_num, ⟨false, rfl, HGN⟩, HBE⟩
                        | ((repeat apply Exists.intro)
                           refine ⟨⟨k + 1, by omega, ?_, ⟨false, rfl, HGN⟩, HBE⟩, rfl⟩
                           go_num)
                    | true =>
                      have h2 := H2'.out
                      have HGN : Hid (true = (G && (x.methods.take (k + 1)).all methodB)) := by
                        show true = _
                        rw [all_take_succ HY.out, ← Bool.and_assoc, ← HGK.out]
                        simp [methodB, *]
                      go_wp2
                      refine ⟨?_, by simp [intOf]; omega⟩
                      first
                        | exact ⟨k + 1, by omega, by go_num, ⟨true, rfl, HGN⟩, HBE⟩
                        | ((repeat apply Exists.intro)
                           refine ⟨⟨k + 1, by omega, ?_, ⟨true, rfl, HGN⟩, HBE⟩, rfl⟩
                           go_num)
                · have h2 : decide (y.params.length ≤ 4) = false := by rw [HPN.out]; simp; omega
                  have hgt : ¬ pn ≤ 4 := hp4
                  have HGN : Hid (false = (G && (x.methods.take (k + 1)).all methodB)) := by
                    show false = _
                    rw [all_take_succ HY.out, ← Bool.and_assoc, ← HGK.out]
                    simp [methodB, *]
                  go_wp2
                  refine ⟨?_, by simp [intOf]; omega⟩
                  first
                    | exact ⟨k + 1, by omega, by go_num, ⟨false, rfl, HGN⟩, HBE⟩
                    | ((repeat apply Exists.intro)
                       refine ⟨⟨k + 1, by omega, ?_, ⟨false, rfl, HGN⟩, HBE⟩, rfl⟩
                       go_num)
          · obtain rfl : k = n := by omega
            go_wp2
            have et := List.take_of_length_le (l := x.methods) (i := k) (by rw [HN2.out]; exact Nat.le_refl _)
            have HGN : Hid (gk = (p.main.all stmtB && (p.classes.take (j + 1)).all classB)) := by
              show gk = _
              rw [all_take_succ HX.out, HGK.out, et, HGD.out]
              simp [classB, Bool.and_assoc]
            refine ⟨?_, by simp [intOf]; omega⟩
            first
              | exact ⟨j + 1, by omega, by go_num, ⟨gk, rfl, HGN⟩, HBR⟩
              | ((repeat apply Exists.intro)
                 refine ⟨⟨j + 1, by omega, ?_, ⟨gk, rfl, HGN⟩, HBR⟩, rfl⟩
                 go_num)
      | true =>
        have HBA : Hid (∀ X, Below w.heap.size w (wo.alloc X)) := fun X => HB.out.alloc HB.out.size X
        go_wp2_with fail
        refine (name_in (HM.out.keep (HBA.out _)) _ wn).mono ?_
        rintro e w' ⟨rfl, rfl⟩
        cases h1 : isNameB x.name with
        | false =>
          have HG : Hid (G = false) := by show G = false; rw [HGD.out]; simp [classTop, h1]
          go_wp2
          go_loopw [3, 42] (fun v3 v42 w' => ∃ k : Nat, k ≤ n ∧ v42 = .int .i64 k ∧ (∃ gk : Bool, v3 = .bool gk ∧ Hid (gk = (G && (x.methods.take k).all methodB))) ∧ Hid (Below w.heap.size w w')) (fun _ v42 _ => n - (intOf v42).toNat)
          case atStart => exact ⟨0, by omega, rfl, ⟨false, rfl, by show false = _; rw [HG.out]; simp⟩, HBA.out _⟩
          case round =>
            obtain ⟨k, hk, rfl, ⟨gk, rfl, HGK⟩, HBR⟩ := hrel
            by_cases hlt2 : k < n
            · obtain ⟨y, hy⟩ : ∃ y, x.methods[k]? = some y := ⟨_, List.getElem?_eq_getElem (by rw [HN2.out]; exact hlt2)⟩
              have HY := Lib.hid hy
              clear hy
              obtain ⟨b', off', cs', rfl, hbl', hc, pv, bv, rfl, wt, ws, hpv, hbv⟩ := H2.out k _ HY.out
              have HPV := Lib.hid hpv
              have HBV := Lib.hid hbv
              obtain ⟨pa, pn, pcap, rfl, hpn, hpc, hpm, -⟩ := hpv
              obtain ⟨ba, bn, bcap, rfl⟩ := RSl.shape hbv
              obtain ⟨e0, e1, e2, e3, -⟩ := cellsAt_of_block (HBR.out.block b' hbl') hc
              have HPN := Lib.hid hpn
              unfold maxC at hpm
              clear hbv hc hpn
              cases gk with
              | false =>
                have HBE : Hid (∀ X, Below w.heap.size w (wr.alloc X)) := fun X => HBR.out.alloc HBR.out.size X
                have HGN : Hid (false = (G && (x.methods.take (k + 1)).all methodB)) := by
                  show false = _
                  rw [all_take_succ HY.out, ← Bool.and_assoc, ← HGK.out]; rfl
                go_wp2
                refine ⟨?_, by simp [intOf]; omega⟩
                first
                  | exact ⟨k + 1, by omega, by go_num, ⟨false, rfl, HGN⟩, HBE.out _⟩
                  | ((repeat apply Exists.intro)
                     refine ⟨⟨k + 1, by omega, ?_, ⟨false, rfl, HGN⟩, HBE.out _⟩, rfl⟩
                     go_num)
              | true =>
                have HBA : Hid (∀ X, Below w.heap.size w (wr.alloc X)) := fun X => HBR.out.alloc HBR.out.size X
                go_wp2_with fail
                refine (slot_any _ _ wt ws _ (HM.out.keep (HBA.out _))).mono ?_
                rintro e w1 ⟨rfl, hb1⟩
                have HBE : Hid (Below w.heap.size w w1) := afterCall (HBA.out _) hb1
                have q2 : w1.cell? ⟨wr.heap.size, 2, none⟩ = some (.slice pa pn pcap) := (hb1.cell (by simp)).trans (by simp)
                have q3 : w1.cell? ⟨wr.heap.size, 3, none⟩ = some (.slice ba bn bcap) := (hb1.cell (by simp)).trans (by simp)
                clear hb1 e0 e1 e2 e3 HBA
                cases h1 : slotB ⟨y.type, y.name⟩ with
                | false =>
                  have HGN : Hid (false = (G && (x.methods.take (k + 1)).all methodB)) := by
                    show false = _
                    rw [all_take_succ HY.out, ← Bool.and_assoc, ← HGK.out]
                    simp [methodB, *]
                  go_wp2
                  refine ⟨?_, by simp [intOf]; omega⟩
                  first
                    | exact ⟨k + 1, by omega, by go_num, ⟨false, rfl, HGN⟩, HBE⟩
                    | ((repeat apply Exists.intro)
                       refine ⟨⟨k + 1, by omega, ?_, ⟨false, rfl, HGN⟩, HBE⟩, rfl⟩
                       go_num)
                | true =>
                  by_cases hp4 : pn ≤ 4
                  · have h2 : decide (y.params.length ≤ 4) = true := by rw [HPN.out]; simp [hp4]
                    have H2' := Lib.hid h2
                    clear h2
                    go_wp2_with fail
                    refine (slots_any w1 (HM.out.keep HBE.out) _ y.params (HPV.out.mono (fun k hk => Nat.lt_of_lt_of_le hk HBE.out.size) (fun k hk => HBE.out.block k hk))).mono ?_
                    rintro e w2 ⟨rfl, hb2⟩
                    have HBE1 := HBE
                    clear HBE
                    have HBE := nextB hb2 HBE1
                    have r3 := next (o := 3) hb2 q3
                    clear hb2 q2 q3 HBE1
                    cases h3 : y.params.all slotB with
                    | false =>
                      have h2 := H2'.out
                      have HGN : Hid (false = (G && (x.methods.take (k + 1)).all methodB)) := by
                        show false = _
                        rw [all_take_succ HY.out, ← Bool.and_assoc, ← HGK.out]
                        simp [methodB, *]
                      go_wp2
                      refine ⟨?_, by simp [intOf]; omega⟩
                      first
                        | exact ⟨k + 1, by omega, by go_num, ⟨false, rfl, HGN⟩, HBE⟩
                        | ((repeat apply Exists.intro)
                           refine ⟨⟨k + 1, by omega, ?_, ⟨false, rfl, HGN⟩, HBE⟩, rfl⟩
                           go_num)
                    | true =>
                      go_wp2_with fail
                      refine (stmts_any d w2 _ y.body (HM.out.keep HBE.out) (HBV.out.mono (fun k hk => Nat.lt_of_lt_of_le hk HBE.out.size) (fun k hk => HBE.out.block k hk))).mono ?_
                      rintro e w3 ⟨rfl, hb3⟩
                      have HBE1 := HBE
                      clear HBE
                      have HBE := nextB hb3 HBE1
                      clear hb3 r3 HBE1
                      cases h4 : y.body.all stmtB with
                      | false =>
                        have h2 := H2'.out
                        have HGN : Hid (false = (G && (x.methods.take (k + 1)).all methodB)) := by
                          show false = _
                          rw [all_take_succ HY.out, ← Bool.and_assoc, ← HGK.out]
                          simp [methodB, *]
                        go_wp2
                        refine ⟨?_, by simp [intOf]; omega⟩
                        first
                          | exact ⟨k + 1, by omega, by go_num, ⟨false, rfl, HGN⟩, HBE⟩
                          | ((repeat apply Exists.intro)
                             refine ⟨⟨k + 1, by omega, ?_, ⟨false, rfl, HGN⟩, HBE⟩, rfl⟩
                             go_num)
                      | true =>
                        have h2 := H2'.out
                        have HGN : Hid (true = (G && (x.methods.take (k + 1)).all methodB)) := by
                          show true = _
                          rw [all_take_succ HY.out, ← Bool.and_assoc, ← HGK.out]
                          simp [methodB, *]
                        go_wp2
                        refine ⟨?_, by simp [intOf]; omega⟩
                        first
                          | exact ⟨k + 1, by omega, by go_num, ⟨true, rfl, HGN⟩, HBE⟩
                          | ((repeat apply Exists.intro)
                             refine ⟨⟨k + 1, by omega, ?_, ⟨true, rfl, HGN⟩, HBE⟩, rfl⟩
                             go_num)
                  · have h2 : decide (y.params.length ≤ 4) = false := by rw [HPN.out]; simp; omega
                    have hgt : ¬ pn ≤ 4 := hp4
                    have HGN : Hid (false = (G && (x.methods.take (k + 1)).all methodB)) := by
                      show false = _
                      rw [all_take_succ HY.out, ← Bool.and_assoc, ← HGK.out]
                      simp [methodB, *]
                    go_wp2
                    refine ⟨?_, by simp [intOf]; omega⟩
                    first
                      | exact ⟨k + 1, by omega, by go_num, ⟨false, rfl, HGN⟩, HBE⟩
                      | ((repeat apply Exists.intro)
                         refine ⟨⟨k + 1, by omega, ?_, ⟨false, rfl, HGN⟩, HBE⟩, rfl⟩
                         go_num)
            · obtain rfl : k = n := by omega
              go_wp2
              have et := List.take_of_length_le (l := x.methods) (i := k) (by rw [HN2.out]; exact Nat.le_refl _)
              have HGN : Hid (gk = (p.main.all stmtB && (p.classes.take (j + 1)).all classB)) := by
                show gk = _
                rw [all_take_succ HX.out, HGK.out, et, HGD.out]
                simp [classB, Bool.and_assoc]
              refine ⟨?_, by simp [intOf]; omega⟩
              first
                | exact ⟨j + 1, by omega, by go_num, ⟨gk, rfl, HGN⟩, HBR⟩
                | ((repeat apply Exists.intro)
                   refine ⟨⟨j + 1, by omega, ?_, ⟨gk, rfl, HGN⟩, HBR⟩, rfl⟩
                   go_num)
        | true =>
          cases h2 : x.super.toList.isEmpty with
          | true =>
            have h2' : (x.super.toList.isEmpty) = true := h2
            go_wp2_with fail
            refine (slots_any _ (HM.out.keep (HBA.out _)) _ x.fields (HF.out.mono (fun k hk => Nat.lt_of_lt_of_le hk (HBA.out _).size) (fun k hk => (HBA.out _).block k hk))).mono ?_
            rintro e w2 ⟨rfl, hb2⟩
            have HBI : Hid (Below w.heap.size w w2) := afterCall (HBA.out _) hb2
            have q3 : w2.cell? ⟨wo.heap.size, 3, none⟩ = some (.slice a n cap) := (hb2.cell (by simp)).trans (by simp)
            clear hb2
            cases h4 : x.fields.all slotB with
            | false =>
              have HG : Hid (G = false) := by show G = false; rw [HGD.out]; simp [classTop, h4]
              go_wp2
              go_loopw [3, 42] (fun v3 v42 w' => ∃ k : Nat, k ≤ n ∧ v42 = .int .i64 k ∧ (∃ gk : Bool, v3 = .bool gk ∧ Hid (gk = (G && (x.methods.take k).all methodB))) ∧ Hid (Below w.heap.size w w')) (fun _ v42 _ => n - (intOf v42).toNat)
              case atStart => exact ⟨0, by omega, rfl, ⟨false, rfl, by show false = _; rw [HG.out]; simp⟩, HBI⟩
              case round =>
                obtain ⟨k, hk, rfl, ⟨gk, rfl, HGK⟩, HBR⟩ := hrel
                by_cases hlt2 : k < n
                · obtain ⟨y, hy⟩ : ∃ y, x.methods[k]? = some y := ⟨_, List.getElem?_eq_getElem (by rw [HN2.out]; exact hlt2)⟩
                  have HY := Lib.hid hy
                  clear hy
                  obtain ⟨b', off', cs', rfl, hbl', hc, pv, bv, rfl, wt, ws, hpv, hbv⟩ := H2.out k _ HY.out
                  have HPV := Lib.hid hpv
                  have HBV := Lib.hid hbv
                  obtain ⟨pa, pn, pcap, rfl, hpn, hpc, hpm, -⟩ := hpv
                  obtain ⟨ba, bn, bcap, rfl⟩ := RSl.shape hbv
                  obtain ⟨e0, e1, e2, e3, -⟩ := cellsAt_of_block (HBR.out.block b' hbl') hc
                  have HPN := Lib.hid hpn
                  unfold maxC at hpm
                  clear hbv hc hpn
                  cases gk with
                  | false =>
                    have HBE : Hid (∀ X, Below w.heap.size w (wr.alloc X)) := fun X => HBR.out.alloc HBR.out.size X
                    have HGN : Hid (false = (G && (x.methods.take (k + 1)).all methodB)) := by
                      show false = _
                      rw [all_take_succ HY.out, ← Bool.and_assoc, ← HGK.out]; rfl
                    go_wp2
                    refine ⟨?_, by simp [intOf]; omega⟩
                    first
                      | exact ⟨k + 1, by omega, by go_num, ⟨false, rfl, HGN⟩, HBE.out _⟩
                      | ((repeat apply Exists.intro)
                         refine ⟨⟨k + 1, by omega, ?_, ⟨false, rfl, HGN⟩, HBE.out _⟩, rfl⟩
                         go_num)
                  | true =>
                    have HBA : Hid (∀ X, Below w.heap.size w (wr.alloc X)) := fun X => HBR.out.alloc HBR.out.size X
                    go_wp2_with fail
                    refine (slot_any _ _ wt ws _ (HM.out.keep (HBA.out _))).mono ?_
                    rintro e w1 ⟨rfl, hb1⟩
                    have HBE : Hid (Below w.heap.size w w1) := afterCall (HBA.out _) hb1
                    have q2 : w1.cell? ⟨wr.heap.size, 2, none⟩ = some (.slice pa pn pcap) := (hb1.cell (by simp)).trans (by simp)
                    have q3 : w1.cell? ⟨wr.heap.size, 3, none⟩ = some (.slice ba bn bcap) := (hb1.cell (by simp)).trans (by simp)
                    clear hb1 e0 e1 e2 e3 HBA
                    cases h1 : slotB ⟨y.type, y.name⟩ with
                    | false =>
                      have HGN : Hid (false = (G && (x.methods.take (k + 1)).all methodB)) := by
                        show false = _
                        rw [all_take_succ HY.out, ← Bool.and_assoc, ← HGK.out]
                        simp [methodB, *]
                      go_wp2
                      refine ⟨?_, by simp [intOf]; omega⟩
                      first
                        | exact ⟨k + 1, by omega, by go_num, ⟨false, rfl, HGN⟩, HBE⟩
                        | ((repeat apply Exists.intro)
                           refine ⟨⟨k + 1, by omega, ?_, ⟨false, rfl, HGN⟩, HBE⟩, rfl⟩
                           go_num)
                    | true =>
                      by_cases hp4 : pn ≤ 4
                      · have h2 : decide (y.params.length ≤ 4) = true := by rw [HPN.out]; simp [hp4]
                        have H2' := Lib.hid h2
                        clear h2
                        go_wp2_with fail
                        refine (slots_any w1 (HM.out.keep HBE.out) _ y.params (HPV.out.mono (fun k hk => Nat.lt_of_lt_of_le hk HBE.out.size) (fun k hk => HBE.out.block k hk))).mono ?_
                        rintro e w2 ⟨rfl, hb2⟩
                        have HBE1 := HBE
                        clear HBE
                        have HBE := nextB hb2 HBE1
                        have r3 := next (o := 3) hb2 q3
                        clear hb2 q2 q3 HBE1
                        cases h3 : y.params.all slotB with
                        | false =>
                          have h2 := H2'.out
                          have HGN : Hid (false = (G && (x.methods.take (k + 1)).all methodB)) := by
                            show false = _
                            rw [all_take_succ HY.out, ← Bool.and_assoc, ← HGK.out]
                            simp [methodB, *]
                          go_wp2
                          refine ⟨?_, by simp [intOf]; omega⟩
                          first
                            | exact ⟨k + 1, by omega, by go_num, ⟨false, rfl, HGN⟩, HBE⟩
                            | ((repeat apply Exists.intro)
                               refine ⟨⟨k + 1, by omega, ?_, ⟨false, rfl, HGN⟩, HBE⟩, rfl⟩
                               go_num)
                        | true =>
                          go_wp2_with fail
                          refine (stmts_any d w2 _ y.body (HM.out.keep HBE.out) (HBV.out.mono (fun k hk => Nat.lt_of_lt_of_le hk HBE.out.size) (fun k hk => HBE.out.block k hk))).mono ?_
                          rintro e w3 ⟨rfl, hb3⟩
                          have HBE1 := HBE
                          clear HBE
                          have HBE := nextB hb3 HBE1
                          clear hb3 r3 HBE1
                          cases h4 : y.body.all stmtB with
                          | false =>
                            have h2 := H2'.out
                            have HGN : Hid (false = (G && (x.methods.take (k + 1)).all methodB)) := by
                              show false = _
                              rw [all_take_succ HY.out, ← Bool.and_assoc, ← HGK.out]
                              simp [methodB, *]
                            go_wp2
                            refine ⟨?_, by simp [intOf]; omega⟩
                            first
                              | exact ⟨k + 1, by omega, by go_num, ⟨false, rfl, HGN⟩, HBE⟩
                              | ((repeat apply Exists.intro)
                                 refine ⟨⟨k + 1, by omega, ?_, ⟨false, rfl, HGN⟩, HBE⟩, rfl⟩
                                 go_num)
                          | true =>
                            have h2 := H2'.out
                            have HGN : Hid (true = (G && (x.methods.take (k + 1)).all methodB)) := by
                              show true = _
                              rw [all_take_succ HY.out, ← Bool.and_assoc, ← HGK.out]
                              simp [methodB, *]
                            go_wp2
                            refine ⟨?_, by simp [intOf]; omega⟩
                            first
                              | exact ⟨k + 1, by omega, by go_num, ⟨true, rfl, HGN⟩, HBE⟩
                              | ((repeat apply Exists.intro)
                                 refine ⟨⟨k + 1, by omega, ?_, ⟨true, rfl, HGN⟩, HBE⟩, rfl⟩
                                 go_num)
                      · have h2 : decide (y.params.length ≤ 4) = false := by rw [HPN.out]; simp; omega
                        have hgt : ¬ pn ≤ 4 := hp4
                        have HGN : Hid (false = (G && (x.methods.take (k + 1)).all methodB)) := by
                          show false = _
                          rw [all_take_succ HY.out, ← Bool.and_assoc, ← HGK.out]
                          simp [methodB, *]
                        go_wp2
                        refine ⟨?_, by simp [intOf]; omega⟩
                        first
                          | exact ⟨k + 1, by omega, by go_num, ⟨false, rfl, HGN⟩, HBE⟩
                          | ((repeat apply Exists.intro)
                             refine ⟨⟨k + 1, by omega, ?_, ⟨false, rfl, HGN⟩, HBE⟩, rfl⟩
                             go_num)
                · obtain rfl : k = n := by omega
                  go_wp2
                  have et := List.take_of_length_le (l := x.methods) (i := k) (by rw [HN2.out]; exact Nat.le_refl _)
                  have HGN : Hid (gk = (p.main.all stmtB && (p.classes.take (j + 1)).all classB)) := by
                    show gk = _
                    rw [all_take_succ HX.out, HGK.out, et, HGD.out]
                    simp [classB, Bool.and_assoc]
                  refine ⟨?_, by simp [intOf]; omega⟩
                  first
                    | exact ⟨j + 1, by omega, by go_num, ⟨gk, rfl, HGN⟩, HBR⟩
                    | ((repeat apply Exists.intro)
                       refine ⟨⟨j + 1, by omega, ?_, ⟨gk, rfl, HGN⟩, HBR⟩, rfl⟩
                       go_num)
            | true =>
              have HG : Hid (G = true) := by show G = true; rw [HGD.out, ← HGJ.out]; simp [classTop, *]
              go_wp2
              go_loopw [3, 42] (fun v3 v42 w' => ∃ k : Nat, k ≤ n ∧ v42 = .int .i64 k ∧ (∃ gk : Bool, v3 = .bool gk ∧ Hid (gk = (G && (x.methods.take k).all methodB))) ∧ Hid (Below w.heap.size w w')) (fun _ v42 _ => n - (intOf v42).toNat)
              case atStart => exact ⟨0, by omega, rfl, ⟨true, rfl, by show true = _; rw [HG.out]; simp⟩, HBI⟩
              case round =>
                obtain ⟨k, hk, rfl, ⟨gk, rfl, HGK⟩, HBR⟩ := hrel
                by_cases hlt2 : k < n
                · obtain ⟨y, hy⟩ : ∃ y, x.methods[k]? = some y := ⟨_, List.getElem?_eq_getElem (by rw [HN2.out]; exact hlt2)⟩
                  have HY := Lib.hid hy
                  clear hy
                  obtain ⟨b', off', cs', rfl, hbl', hc, pv, bv, rfl, wt, ws, hpv, hbv⟩ := H2.out k _ HY.out
                  have HPV := Lib.hid hpv
                  have HBV := Lib.hid hbv
                  obtain ⟨pa, pn, pcap, rfl, hpn, hpc, hpm, -⟩ := hpv
                  obtain ⟨ba, bn, bcap, rfl⟩ := RSl.shape hbv
                  obtain ⟨e0, e1, e2, e3, -⟩ := cellsAt_of_block (HBR.out.block b' hbl') hc
                  have HPN := Lib.hid hpn
                  unfold maxC at hpm
                  clear hbv hc hpn
                  cases gk with
                  | false =>
                    have HBE : Hid (∀ X, Below w.heap.size w (wr.alloc X)) := fun X => HBR.out.alloc HBR.out.size X
                    have HGN : Hid (false = (G && (x.methods.take (k + 1)).all methodB)) := by
                      show false = _
                      rw [all_take_succ HY.out, ← Bool.and_assoc, ← HGK.out]; rfl
                    go_wp2
                    refine ⟨?_, by simp [intOf]; omega⟩
                    first
                      | exact ⟨k + 1, by omega, by go_num, ⟨false, rfl, HGN⟩, HBE.out _⟩
                      | ((repeat apply Exists.intro)
                         refine ⟨⟨k + 1, by omega, ?_, ⟨false, rfl, HGN⟩, HBE.out _⟩, rfl⟩
                         go_num)
                  | true =>
                    have HBA : Hid (∀ X, Below w.heap.size w (wr.alloc X)) := fun X => HBR.out.alloc HBR.out.size X
                    go_wp2_with fail
                    refine (slot_any _ _ wt ws _ (HM.out.keep (HBA.out _))).mono ?_
                    rintro e w1 ⟨rfl, hb1⟩
                    have HBE : Hid (Below w.heap.size w w1) := afterCall (HBA.out _) hb1
                    have q2 : w1.cell? ⟨wr.heap.size, 2, none⟩ = some (.slice pa pn pcap) := (hb1.cell (by simp)).trans (by simp)
                    have q3 : w1.cell? ⟨wr.heap.size, 3, none⟩ = some (.slice ba bn bcap) := (hb1.cell (by simp)).trans (by simp)
                    clear hb1 e0 e1 e2 e3 HBA
                    cases h1 : slotB ⟨y.type, y.name⟩ with
                    | false =>
                      have HGN : Hid (false = (G && (x.methods.take (k + 1)).all methodB)) := by
                        show false = _
                        rw [all_take_succ HY.out, ← Bool.and_assoc, ← HGK.out]
                        simp [methodB, *]
                      go_wp2
                      refine ⟨?_, by simp [intOf]; omega⟩
                      first
                        | exact ⟨k + 1, by omega, by go_num, ⟨false, rfl, HGN⟩, HBE⟩
                        | ((repeat apply Exists.intro)
                           refine ⟨⟨k + 1, by omega, ?_, ⟨false, rfl, HGN⟩, HBE⟩, rfl⟩
                           go_num)
                    | true =>
                      by_cases hp4 : pn ≤ 4
                      · have h2 : decide (y.params.length ≤ 4) = true := by rw [HPN.out]; simp [hp4]
                        have H2' := Lib.hid h2
                        clear h2
                        go_wp2_with fail
                        refine (slots_any w1 (HM.out.keep HBE.out) _ y.params (HPV.out.mono (fun k hk => Nat.lt_of_lt_of_le hk HBE.out.size) (fun k hk => HBE.out.block k hk))).mono ?_
                        rintro e w2 ⟨rfl, hb2⟩
                        have HBE1 := HBE
                        clear HBE
                        have HBE := nextB hb2 HBE1
                        have r3 := next (o := 3) hb2 q3
                        clear hb2 q2 q3 HBE1
                        cases h3 : y.params.all slotB with
                        | false =>
                          have h2 := H2'.out
                          have HGN : Hid (false = (G && (x.methods.take (k + 1)).all methodB)) := by
                            show false = _
                            rw [all_take_succ HY.out, ← Bool.and_assoc, ← HGK.out]
                            simp [methodB, *]
                          go_wp2
                          refine ⟨?_, by simp [intOf]; omega⟩
                          first
                            | exact ⟨k + 1, by omega, by go_num, ⟨false, rfl, HGN⟩, HBE⟩
                            | ((repeat apply Exists.intro)
                               refine ⟨⟨k + 1, by omega, ?_, ⟨false, rfl, HGN⟩, HBE⟩, rfl⟩
                               go_num)
                        | true =>
                          go_wp2_with fail
                          refine (stmts_any d w2 _ y.body (HM.out.keep HBE.out) (HBV.out.mono (fun k hk => Nat.lt_of_lt_of_le hk HBE.out.size) (fun k hk => HBE.out.block k hk))).mono ?_
                          rintro e w3 ⟨rfl, hb3⟩
                          have HBE1 := HBE
                          clear HBE
                          have HBE := nextB hb3 HBE1
                          clear hb3 r3 HBE1
                          cases h4 : y.body.all stmtB with
                          | false =>
                            have h2 := H2'.out
                            have HGN : Hid (false = (G && (x.methods.take (k + 1)).all methodB)) := by
                              show false = _
                              rw [all_take_succ HY.out, ← Bool.and_assoc, ← HGK.out]
                              simp [methodB, *]
                            go_wp2
                            refine ⟨?_, by simp [intOf]; omega⟩
                            first
                              | exact ⟨k + 1, by omega, by go_num, ⟨false, rfl, HGN⟩, HBE⟩
                              | ((repeat apply Exists.intro)
                                 refine ⟨⟨k + 1, by omega, ?_, ⟨false, rfl, HGN⟩, HBE⟩, rfl⟩
                                 go_num)
                          | true =>
                            have h2 := H2'.out
                            have HGN : Hid (true = (G && (x.methods.take (k + 1)).all methodB)) := by
                              show true = _
                              rw [all_take_succ HY.out, ← Bool.and_assoc, ← HGK.out]
                              simp [methodB, *]
                            go_wp2
                            refine ⟨?_, by simp [intOf]; omega⟩
                            first
                              | exact ⟨k + 1, by omega, by go_num, ⟨true, rfl, HGN⟩, HBE⟩
                              | ((repeat apply Exists.intro)
                                 refine ⟨⟨k + 1, by omega, ?_, ⟨true, rfl, HGN⟩, HBE⟩, rfl⟩
                                 go_num)
                      · have h2 : decide (y.params.length ≤ 4) = false := by rw [HPN.out]; simp; omega
                        have hgt : ¬ pn ≤ 4 := hp4
                        have HGN : Hid (false = (G && (x.methods.take (k + 1)).all methodB)) := by
                          show false = _
                          rw [all_take_succ HY.out, ← Bool.and_assoc, ← HGK.out]
                          simp [methodB, *]
                        go_wp2
                        refine ⟨?_, by simp [intOf]; omega⟩
                        first
                          | exact ⟨k + 1, by omega, by go_num, ⟨false, rfl, HGN⟩, HBE⟩
                          | ((repeat apply Exists.intro)
                             refine ⟨⟨k + 1, by omega, ?_, ⟨false, rfl, HGN⟩, HBE⟩, rfl⟩
                             go_num)
                · obtain rfl : k = n := by omega
                  go_wp2
                  have et := List.take_of_length_le (l := x.methods) (i := k) (by rw [HN2.out]; exact Nat.le_refl _)
                  have HGN : Hid (gk = (p.main.all stmtB && (p.classes.take (j + 1)).all classB)) := by
                    show gk = _
                    rw [all_take_succ HX.out, HGK.out, et, HGD.out]
                    simp [classB, Bool.and_assoc]
                  refine ⟨?_, by simp [intOf]; omega⟩
                  first
                    | exact ⟨j + 1, by omega, by go_num, ⟨gk, rfl, HGN⟩, HBR⟩
                    | ((repeat apply Exists.intro)
                       refine ⟨⟨j + 1, by omega, ?_, ⟨gk, rfl, HGN⟩, HBR⟩, rfl⟩
                       go_num)
          | false =>
            have h2' : x.super.toList.isEmpty = false := h2
            go_wp2_with fail
            refine (name_in (HM.out.keep (HBA.out _)) _ wu).mono ?_
            rintro e w' ⟨rfl, rfl⟩
            cases h3 : isNameB x.super with
            | false =>
              have HG : Hid (G = false) := by show G = false; rw [HGD.out]; simp [classTop, h1, h3, h2']
              go_wp2
              go_loopw [3, 42] (fun v3 v42 w' => ∃ k : Nat, k ≤ n ∧ v42 = .int .i64 k ∧ (∃ gk : Bool, v3 = .bool gk ∧ Hid (gk = (G && (x.methods.take k).all methodB))) ∧ Hid (Below w.heap.size w w')) (fun _ v42 _ => n - (intOf v42).toNat)
              case atStart => exact ⟨0, by omega, rfl, ⟨false, rfl, by show false = _; rw [HG.out]; simp⟩, HBA.out _⟩
              case round =>
                obtain ⟨k, hk, rfl, ⟨gk, rfl, HGK⟩, HBR⟩ := hrel
                by_cases hlt2 : k < n
                · obtain ⟨y, hy⟩ : ∃ y, x.methods[k]? = some y := ⟨_, List.getElem?_eq_getElem (by rw [HN2.out]; exact hlt2)⟩
                  have HY := Lib.hid hy
                  clear hy
                  obtain ⟨b', off', cs', rfl, hbl', hc, pv, bv, rfl, wt, ws, hpv, hbv⟩ := H2.out k _ HY.out
                  have HPV := Lib.hid hpv
                  have HBV := Lib.hid hbv
                  obtain ⟨pa, pn, pcap, rfl, hpn, hpc, hpm, -⟩ := hpv
                  obtain ⟨ba, bn, bcap, rfl⟩ := RSl.shape hbv
                  obtain ⟨e0, e1, e2, e3, -⟩ := cellsAt_of_block (HBR.out.block b' hbl') hc
                  have HPN := Lib.hid hpn
                  unfold maxC at hpm
                  clear hbv hc hpn
                  cases gk with
                  | false =>
                    have HBE : Hid (∀ X, Below w.heap.size w (wr.alloc X)) := fun X => HBR.out.alloc HBR.out.size X
                    have HGN : Hid (false = (G && (x.methods.take (k + 1)).all methodB)) := by
                      show false = _
                      rw [all_take_succ HY.out, ← Bool.and_assoc, ← HGK.out]; rfl
                    go_wp2
                    refine ⟨?_, by simp [intOf]; omega⟩
                    first
                      | exact ⟨k + 1, by omega, by go_num, ⟨false, rfl, HGN⟩, HBE.out _⟩
                      | ((repeat apply Exists.intro)
                         refine ⟨⟨k + 1, by omega, ?_, ⟨false, rfl, HGN⟩, HBE.out _⟩, rfl⟩
                         go_num)
                  | true =>
                    have HBA : Hid (∀ X, Below w.heap.size w (wr.alloc X)) := fun X => HBR.out.alloc HBR.out.size X
                    go_wp2_with fail
                    refine (slot_any _ _ wt ws _ (HM.out.keep (HBA.out _))).mono ?_
                    rintro e w1 ⟨rfl, hb1⟩
                    have HBE : Hid (Below w.heap.size w w1) := afterCall (HBA.out _) hb1
                    have q2 : w1.cell? ⟨wr.heap.size, 2, none⟩ = some (.slice pa pn pcap) := (hb1.cell (by simp)).trans (by simp)
                    have q3 : w1.cell? ⟨wr.heap.size, 3, none⟩ = some (.slice ba bn bcap) := (hb1.cell (by simp)).trans (by simp)
                    clear hb1 e0 e1 e2 e3 HBA
                    cases h1 : slotB ⟨y.type, y.name⟩ with
                    | false =>
                      have HGN : Hid (false = (G && (x.methods.take (k + 1)).all methodB)) := by
                        show false = _
                        rw [all_take_succ HY.out, ← Bool.and_assoc, ← HGK.out]
                        simp [methodB, *]
                      go_wp2
                      refine ⟨?_, by simp [intOf]; omega⟩
                      first
                        | exact ⟨k + 1, by omega, by go_num, ⟨false, rfl, HGN⟩, HBE⟩
                        | ((repeat apply Exists.intro)
                           refine ⟨⟨k + 1, by omega, ?_, ⟨false, rfl, HGN⟩, HBE⟩, rfl⟩
                           go_num)
                    | true =>
                      by_cases hp4 : pn ≤ 4
                      · have h2 : decide (y.params.length ≤ 4) = true := by rw [HPN.out]; simp [hp4]
                        have H2' := Lib.hid h2
                        clear h2
                        go_wp2_with fail
                        refine (slots_any w1 (HM.out.keep HBE.out) _ y.params (HPV.out.mono (fun k hk => Nat.lt_of_lt_of_le hk HBE.out.size) (fun k hk => HBE.out.block k hk))).mono ?_
                        rintro e w2 ⟨rfl, hb2⟩
                        have HBE1 := HBE
                        clear HBE
                        have HBE := nextB hb2 HBE1
                        have r3 := next (o := 3) hb2 q3
                        clear hb2 q2 q3 HBE1
                        cases h3 : y.params.all slotB with
                        | false =>
                          have h2 := H2'.out
                          have HGN : Hid (false = (G && (x.methods.take (k + 1)).all methodB)) := by
                            show false = _
                            rw [all_take_succ HY.out, ← Bool.and_assoc, ← HGK.out]
                            simp [methodB, *]
                          go_wp2
                          refine ⟨?_, by simp [intOf]; omega⟩
                          first
                            | exact ⟨k + 1, by omega, by go_num, ⟨false, rfl, HGN⟩, HBE⟩
                            | ((repeat apply Exists.intro)
                               refine ⟨⟨k + 1, by omega, ?_, ⟨false, rfl, HGN⟩, HBE⟩, rfl⟩
                               go_num)
                        | true =>
                          go_wp2_with fail
                          refine (stmts_any d w2 _ y.body (HM.out.keep HBE.out) (HBV.out.mono (fun k hk => Nat.lt_of_lt_of_le hk HBE.out.size) (fun k hk => HBE.out.block k hk))).mono ?_
                          rintro e w3 ⟨rfl, hb3⟩
                          have HBE1 := HBE
                          clear HBE
                          have HBE := nextB hb3 HBE1
                          clear hb3 r3 HBE1
                          cases h4 : y.body.all stmtB with
                          | false =>
                            have h2 := H2'.out
                            have HGN : Hid (false = (G && (x.methods.take (k + 1)).all methodB)) := by
                              show false = _
                              rw [all_take_succ HY.out, ← Bool.and_assoc, ← HGK.out]
                              simp [methodB, *]
                            go_wp2
                            refine ⟨?_, by simp [intOf]; omega⟩
                            first
                              | exact ⟨k + 1, by omega, by go_num, ⟨false, rfl, HGN⟩, HBE⟩
                              | ((repeat apply Exists.intro)
                                 refine ⟨⟨k + 1, by omega, ?_, ⟨false, rfl, HGN⟩, HBE⟩, rfl⟩
                                 go_num)
                          | true =>
                            have h2 := H2'.out
                            have HGN : Hid (true = (G && (x.methods.take (k + 1)).all methodB)) := by
                              show true = _
                              rw [all_take_succ HY.out, ← Bool.and_assoc, ← HGK.out]
                              simp [methodB, *]
                            go_wp2
                            refine ⟨?_, by simp [intOf]; omega⟩
                            first
                              | exact ⟨k + 1, by omega, by go_num, ⟨true, rfl, HGN⟩, HBE⟩
                              | ((repeat apply Exists.intro)
                                 refine ⟨⟨k + 1, by omega, ?_, ⟨true, rfl, HGN⟩, HBE⟩, rfl⟩
                                 go_num)
                      · have h2 : decide (y.params.length ≤ 4) = false := by rw [HPN.out]; simp; omega
                        have hgt : ¬ pn ≤ 4 := hp4
                        have HGN : Hid (false = (G && (x.methods.take (k + 1)).all methodB)) := by
                          show false = _
                          rw [all_take_succ HY.out, ← Bool.and_assoc, ← HGK.out]
                          simp [methodB, *]
                        go_wp2
                        refine ⟨?_, by simp [intOf]; omega⟩
                        first
                          | exact ⟨k + 1, by omega, by go_num, ⟨false, rfl, HGN⟩, HBE⟩
                          | ((repeat apply Exists.intro)
                             refine ⟨⟨k + 1, by omega, ?_, ⟨false, rfl, HGN⟩, HBE⟩, rfl⟩
                             go_num)
                · obtain rfl : k = n := by omega
                  go_wp2
                  have et := List.take_of_length_le (l := x.methods) (i := k) (by rw [HN2.out]; exact Nat.le_refl _)
                  have HGN : Hid (gk = (p.main.all stmtB && (p.classes.take (j + 1)).all classB)) := by
                    show gk = _
                    rw [all_take_succ HX.out, HGK.out, et, HGD.out]
                    simp [classB, Bool.and_assoc]
                  refine ⟨?_, by simp [intOf]; omega⟩
                  first
                    | exact ⟨j + 1, by omega, by go_num, ⟨gk, rfl, HGN⟩, HBR⟩
                    | ((repeat apply Exists.intro)
                       refine ⟨⟨j + 1, by omega, ?_, ⟨gk, rfl, HGN⟩, HBR⟩, rfl⟩
                       go_num)
            | true =>
              go_wp2_with fail
              refine (slots_any _ (HM.out.keep (HBA.out _)) _ x.fields (HF.out.mono (fun k hk => Nat.lt_of_lt_of_le hk (HBA.out _).size) (fun k hk => (HBA.out _).block k hk))).mono ?_
              rintro e w2 ⟨rfl, hb2⟩
              have HBI : Hid (Below w.heap.size w w2) := afterCall (HBA.out _) hb2
              have q3 : w2.cell? ⟨wo.heap.size, 3, none⟩ = some (.slice a n cap) := (hb2.cell (by simp)).trans (by simp)
              clear hb2
              cases h4 : x.fields.all slotB with
              | false =>
                have HG : Hid (G = false) := by show G = false; rw [HGD.out]; simp [classTop, h4]
                go_wp2
                go_loopw [3, 42] (fun v3 v42 w' => ∃ k : Nat, k ≤ n ∧ v42 = .int .i64 k ∧ (∃ gk : Bool, v3 = .bool gk ∧ Hid (gk = (G && (x.methods.take k).all methodB))) ∧ Hid (Below w.heap.size w w')) (fun _ v42 _ => n - (intOf v42).toNat)
                case atStart => exact ⟨0, by omega, rfl, ⟨false, rfl, by show false = _; rw [HG.out]; simp⟩, HBI⟩
                case round =>
                  obtain ⟨k, hk, rfl, ⟨gk, rfl, HGK⟩, HBR⟩ := hrel
                  by_cases hlt2 : k < n
                  · obtain ⟨y, hy⟩ : ∃ y, x.methods[k]? = some y := ⟨_, List.getElem?_eq_getElem (by rw [HN2.out]; exact hlt2)⟩
                    have HY := Lib.hid hy
                    clear hy
                    obtain ⟨b', off', cs', rfl, hbl', hc, pv, bv, rfl, wt, ws, hpv, hbv⟩ := H2.out k _ HY.out
                    have HPV := Lib.hid hpv
                    have HBV := Lib.hid hbv
                    obtain ⟨pa, pn, pcap, rfl, hpn, hpc, hpm, -⟩ := hpv
                    obtain ⟨ba, bn, bcap, rfl⟩ := RSl.shape hbv
                    obtain ⟨e0, e1, e2, e3, -⟩ := cellsAt_of_block (HBR.out.block b' hbl') hc
                    have HPN := Lib.hid hpn
                    unfold maxC at hpm
                    clear hbv hc hpn
                    cases gk with
                    | false =>
                      have HBE : Hid (∀ X, Below w.heap.size w (wr.alloc X)) := fun X => HBR.out.alloc HBR.out.size X
                      have HGN : Hid (false = (G && (x.methods.take (k + 1)).all methodB)) := by
                        show false = _
                        rw [all_take_succ HY.out, ← Bool.and_assoc, ← HGK.out]; rfl
                      go_wp2
                      refine ⟨?_, by simp [intOf]; omega⟩
                      first
                        | exact ⟨k + 1, by omega, by go_num, ⟨false, rfl, HGN⟩, HBE.out _⟩
                        | ((repeat apply Exists.intro)
                           refine ⟨⟨k + 1, by omega, ?_, ⟨false, rfl, HGN⟩, HBE.out _⟩, rfl⟩
                           go_num)
                    | true =>
                      have HBA : Hid (∀ X, Below w.heap.size w (wr.alloc X)) := fun X => HBR.out.alloc HBR.out.size X
                      go_wp2_with fail
                      refine (slot_any _ _ wt ws _ (HM.out.keep (HBA.out _))).mono ?_
                      rintro e w1 ⟨rfl, hb1⟩
                      have HBE : Hid (Below w.heap.size w w1) := afterCall (HBA.out _) hb1
                      have q2 : w1.cell? ⟨wr.heap.size, 2, none⟩ = some (.slice pa pn pcap) := (hb1.cell (by simp)).trans (by simp)
                      have q3 : w1.cell? ⟨wr.heap.size, 3, none⟩ = some (.slice ba bn bcap) := (hb1.cell (by simp)).trans (by simp)
                      clear hb1 e0 e1 e2 e3 HBA
                      cases h1 : slotB ⟨y.type, y.name⟩ with
                      | false =>
                        have HGN : Hid (false = (G && (x.methods.take (k + 1)).all methodB)) := by
                          show false = _
                          rw [all_take_succ HY.out, ← Bool.and_assoc, ← HGK.out]
                          simp [methodB, *]
                        go_wp2
                        refine ⟨?_, by simp [intOf]; omega⟩
                        first
                          | exact ⟨k + 1, by omega, by go_num, ⟨false, rfl, HGN⟩, HBE⟩
                          | ((repeat apply Exists.intro)
                             refine ⟨⟨k + 1, by omega, ?_, ⟨false, rfl, HGN⟩, HBE⟩, rfl⟩
                             go_num)
                      | true =>
                        by_cases hp4 : pn ≤ 4
                        · have h2 : decide (y.params.length ≤ 4) = true := by rw [HPN.out]; simp [hp4]
                          have H2' := Lib.hid h2
                          clear h2
                          go_wp2_with fail
                          refine (slots_any w1 (HM.out.keep HBE.out) _ y.params (HPV.out.mono (fun k hk => Nat.lt_of_lt_of_le hk HBE.out.size) (fun k hk => HBE.out.block k hk))).mono ?_
                          rintro e w2 ⟨rfl, hb2⟩
                          have HBE1 := HBE
                          clear HBE
                          have HBE := nextB hb2 HBE1
                          have r3 := next (o := 3) hb2 q3
                          clear hb2 q2 q3 HBE1
                          cases h3 : y.params.all slotB with
                          | false =>
                            have h2 := H2'.out
                            have HGN : Hid (false = (G && (x.methods.take (k + 1)).all methodB)) := by
                              show false = _
                              rw [all_take_succ HY.out, ← Bool.and_assoc, ← HGK.out]
                              simp [methodB, *]
                            go_wp2
                            refine ⟨?_, by simp [intOf]; omega⟩
                            first
                              | exact ⟨k + 1, by omega, by go_num, ⟨false, rfl, HGN⟩, HBE⟩
                              | ((repeat apply Exists.intro)
                                 refine ⟨⟨k + 1, by omega, ?_, ⟨false, rfl, HGN⟩, HBE⟩, rfl⟩
                                 go_num)
                          | true =>
                            go_wp2_with fail
                            refine (stmts_any d w2 _ y.body (HM.out.keep HBE.out) (HBV.out.mono (fun k hk => Nat.lt_of_lt_of_le hk HBE.out.size) (fun k hk => HBE.out.block k hk))).mono ?_
                            rintro e w3 ⟨rfl, hb3⟩
                            have HBE1 := HBE
                            clear HBE
                            have HBE := nextB hb3 HBE1
                            clear hb3 r3 HBE1
                            cases h4 : y.body.all stmtB with
                            | false =>
                              have h2 := H2'.out
                              have HGN : Hid (false = (G && (x.methods.take (k + 1)).all methodB)) := by
                                show false = _
                                rw [all_take_succ HY.out, ← Bool.and_assoc, ← HGK.out]
                                simp [methodB, *]
                              go_wp2
                              refine ⟨?_, by simp [intOf]; omega⟩
                              first
                                | exact ⟨k + 1, by omega, by go_num, ⟨false, rfl, HGN⟩, HBE⟩
                                | ((repeat apply Exists.intro)
                                   refine ⟨⟨k + 1, by omega, ?_, ⟨false, rfl, HGN⟩, HBE⟩, rfl⟩
                                   go_num)
                            | true =>
                              have h2 := H2'.out
                              have HGN : Hid (true = (G && (x.methods.take (k + 1)).all methodB)) := by
                                show true = _
                                rw [all_take_succ HY.out, ← Bool.and_assoc, ← HGK.out]
                                simp [methodB, *]
                              go_wp2
                              refine ⟨?_, by simp [intOf]; omega⟩
                              first
                                | exact ⟨k + 1, by omega, by go_num, ⟨true, rfl, HGN⟩, HBE⟩
                                | ((repeat apply Exists.intro)
                                   refine ⟨⟨k + 1, by omega, ?_, ⟨true, rfl, HGN⟩, HBE⟩, rfl⟩
                                   go_num)
                        · have h2 : decide (y.params.length ≤ 4) = false := by rw [HPN.out]; simp; omega
                          have hgt : ¬ pn ≤ 4 := hp4
                          have HGN : Hid (false = (G && (x.methods.take (k + 1)).all methodB)) := by
                            show false = _
                            rw [all_take_succ HY.out, ← Bool.and_assoc, ← HGK.out]
                            simp [methodB, *]
                          go_wp2
                          refine ⟨?_, by simp [intOf]; omega⟩
                          first
                            | exact ⟨k + 1, by omega, by go_num, ⟨false, rfl, HGN⟩, HBE⟩
                            | ((repeat apply Exists.intro)
                               refine ⟨⟨k + 1, by omega, ?_, ⟨false, rfl, HGN⟩, HBE⟩, rfl⟩
                               go_num)
                  · obtain rfl : k = n := by omega
                    go_wp2
                    have et := List.take_of_length_le (l := x.methods) (i := k) (by rw [HN2.out]; exact Nat.le_refl _)
                    have HGN : Hid (gk = (p.main.all stmtB && (p.classes.take (j + 1)).all classB)) := by
                      show gk = _
                      rw [all_take_succ HX.out, HGK.out, et, HGD.out]
                      simp [classB, Bool.and_assoc]
                    refine ⟨?_, by simp [intOf]; omega⟩
                    first
                      | exact ⟨j + 1, by omega, by go_num, ⟨gk, rfl, HGN⟩, HBR⟩
                      | ((repeat apply Exists.intro)
                         refine ⟨⟨j + 1, by omega, ?_, ⟨gk, rfl, HGN⟩, HBR⟩, rfl⟩
                         go_num)
              | true =>
                have HG : Hid (G = true) := by show G = true; rw [HGD.out, ← HGJ.out]; simp [classTop, *]
                go_wp2
                go_loopw [3, 42] (fun v3 v42 w' => ∃ k : Nat, k ≤ n ∧ v42 = .int .i64 k ∧ (∃ gk : Bool, v3 = .bool gk ∧ Hid (gk = (G && (x.methods.take k).all methodB))) ∧ Hid (Below w.heap.size w w')) (fun _ v42 _ => n - (intOf v42).toNat)
                case atStart => exact ⟨0, by omega, rfl, ⟨true, rfl, by show true = _; rw [HG.out]; simp⟩, HBI⟩
                case round =>
                  obtain ⟨k, hk, rfl, ⟨gk, rfl, HGK⟩, HBR⟩ := hrel
                  by_cases hlt2 : k < n
                  · obtain ⟨y, hy⟩ : ∃ y, x.methods[k]? = some y := ⟨_, List.getElem?_eq_getElem (by rw [HN2.out]; exact hlt2)⟩
                    have HY := Lib.hid hy
                    clear hy
                    obtain ⟨b', off', cs', rfl, hbl', hc, pv, bv, rfl, wt, ws, hpv, hbv⟩ := H2.out k _ HY.out
                    have HPV := Lib.hid hpv
                    have HBV := Lib.hid hbv
                    obtain ⟨pa, pn, pcap, rfl, hpn, hpc, hpm, -⟩ := hpv
                    obtain ⟨ba, bn, bcap, rfl⟩ := RSl.shape hbv
                    obtain ⟨e0, e1, e2, e3, -⟩ := cellsAt_of_block (HBR.out.block b' hbl') hc
                    have HPN := Lib.hid hpn
                    unfold maxC at hpm
                    clear hbv hc hpn
                    cases gk with
                    | false =>
                      have HBE : Hid (∀ X, Below w.heap.size w (wr.alloc X)) := fun X => HBR.out.alloc HBR.out.size X
                      have HGN : Hid (false = (G && (x.methods.take (k + 1)).all methodB)) := by
                        show false = _
                        rw [all_take_succ HY.out, ← Bool.and_assoc, ← HGK.out]; rfl
                      go_wp2
                      refine ⟨?_, by simp [intOf]; omega⟩
                      first
                        | exact ⟨k + 1, by omega, by go_num, ⟨false, rfl, HGN⟩, HBE.out _⟩
                        | ((repeat apply Exists.intro)
                           refine ⟨⟨k + 1, by omega, ?_, ⟨false, rfl, HGN⟩, HBE.out _⟩, rfl⟩
                           go_num)
                    | true =>
                      have HBA : Hid (∀ X, Below w.heap.size w (wr.alloc X)) := fun X => HBR.out.alloc HBR.out.size X
                      go_wp2_with fail
                      refine (slot_any _ _ wt ws _ (HM.out.keep (HBA.out _))).mono ?_
                      rintro e w1 ⟨rfl, hb1⟩
                      have HBE : Hid (Below w.heap.size w w1) := afterCall (HBA.out _) hb1
                      have q2 : w1.cell? ⟨wr.heap.size, 2, none⟩ = some (.slice pa pn pcap) := (hb1.cell (by simp)).trans (by simp)
                      have q3 : w1.cell? ⟨wr.heap.size, 3, none⟩ = some (.slice ba bn bcap) := (hb1.cell (by simp)).trans (by simp)
                      clear hb1 e0 e1 e2 e3 HBA
                      cases h1 : slotB ⟨y.type, y.name⟩ with
                      | false =>
                        have HGN : Hid (false = (G && (x.methods.take (k + 1)).all methodB)) := by
                          show false = _
                          rw [all_take_succ HY.out, ← Bool.and_assoc, ← HGK.out]
                          simp [methodB, *]
                        go_wp2
                        refine ⟨?_, by simp [intOf]; omega⟩
                        first
                          | exact ⟨k + 1, by omega, by go_num, ⟨false, rfl, HGN⟩, HBE⟩
                          | ((repeat apply Exists.intro)
                             refine ⟨⟨k + 1, by omega, ?_, ⟨false, rfl, HGN⟩, HBE⟩, rfl⟩
                             go_num)
                      | true =>
                        by_cases hp4 : pn ≤ 4
                        · have h2 : decide (y.params.length ≤ 4) = true := by rw [HPN.out]; simp [hp4]
                          have H2' := Lib.hid h2
                          clear h2
                          go_wp2_with fail
                          refine (slots_any w1 (HM.out.keep HBE.out) _ y.params (HPV.out.mono (fun k hk => Nat.lt_of_lt_of_le hk HBE.out.size) (fun k hk => HBE.out.block k hk))).mono ?_
                          rintro e w2 ⟨rfl, hb2⟩
                          have HBE1 := HBE
                          clear HBE
                          have HBE := nextB hb2 HBE1
                          have r3 := next (o := 3) hb2 q3
                          clear hb2 q2 q3 HBE1
                          cases h3 : y.params.all slotB with
                          | false =>
                            have h2 := H2'.out
                            have HGN : Hid (false = (G && (x.methods.take (k + 1)).all methodB)) := by
                              show false = _
                              rw [all_take_succ HY.out, ← Bool.and_assoc, ← HGK.out]
                              simp [methodB, *]
                            go_wp2
                            refine ⟨?_, by simp [intOf]; omega⟩
                            first
                              | exact ⟨k + 1, by omega, by go_num, ⟨false, rfl, HGN⟩, HBE⟩
                              | ((repeat apply Exists.intro)
                                 refine ⟨⟨k + 1, by omega, ?_, ⟨false, rfl, HGN⟩, HBE⟩, rfl⟩
                                 go_num)
                          | true =>
                            go_wp2_with fail
                            refine (stmts_any d w2 _ y.body (HM.out.keep HBE.out) (HBV.out.mono (fun k hk => Nat.lt_of_lt_of_le hk HBE.out.size) (fun k hk => HBE.out.block k hk))).mono ?_
                            rintro e w3 ⟨rfl, hb3⟩
                            have HBE1 := HBE
                            clear HBE
                            have HBE := nextB hb3 HBE1
                            clear hb3 r3 HBE1
                            cases h4 : y.body.all stmtB with
                            | false =>
                              have h2 := H2'.out
                              have HGN : Hid (false = (G && (x.methods.take (k + 1)).all methodB)) := by
                                show false = _
                                rw [all_take_succ HY.out, ← Bool.and_assoc, ← HGK.out]
                                simp [methodB, *]
                              go_wp2
                              refine ⟨?_, by simp [intOf]; omega⟩
                              first
                                | exact ⟨k + 1, by omega, by go_num, ⟨false, rfl, HGN⟩, HBE⟩
                                | ((repeat apply Exists.intro)
                                   refine ⟨⟨k + 1, by omega, ?_, ⟨false, rfl, HGN⟩, HBE⟩, rfl⟩
                                   go_num)
                            | true =>
                              have h2 := H2'.out
                              have HGN : Hid (true = (G && (x.methods.take (k + 1)).all methodB)) := by
                                show true = _
                                rw [all_take_succ HY.out, ← Bool.and_assoc, ← HGK.out]
                                simp [methodB, *]
                              go_wp2
                              refine ⟨?_, by simp [intOf]; omega⟩
                              first
                                | exact ⟨k + 1, by omega, by go_num, ⟨true, rfl, HGN⟩, HBE⟩
                                | ((repeat apply Exists.intro)
                                   refine ⟨⟨k + 1, by omega, ?_, ⟨true, rfl, HGN⟩, HBE⟩, rfl⟩
                                   go_num)
                        · have h2 : decide (y.params.length ≤ 4) = false := by rw [HPN.out]; simp; omega
                          have hgt : ¬ pn ≤ 4 := hp4
                          have HGN : Hid (false = (G && (x.methods.take (k + 1)).all methodB)) := by
                            show false = _
                            rw [all_take_succ HY.out, ← Bool.and_assoc, ← HGK.out]
                            simp [methodB, *]
                          go_wp2
                          refine ⟨?_, by simp [intOf]; omega⟩
                          first
                            | exact ⟨k + 1, by omega, by go_num, ⟨false, rfl, HGN⟩, HBE⟩
                            | ((repeat apply Exists.intro)
                               refine ⟨⟨k + 1, by omega, ?_, ⟨false, rfl, HGN⟩, HBE⟩, rfl⟩
                               go_num)
                  · obtain rfl : k = n := by omega
                    go_wp2
                    have et := List.take_of_length_le (l := x.methods) (i := k) (by rw [HN2.out]; exact Nat.le_refl _)
                    have HGN : Hid (gk = (p.main.all stmtB && (p.classes.take (j + 1)).all classB)) := by
                      show gk = _
                      rw [all_take_succ HX.out, HGK.out, et, HGD.out]
                      simp [classB, Bool.and_assoc]
                    refine ⟨?_, by simp [intOf]; omega⟩
                    first
                      | exact ⟨j + 1, by omega, by go_num, ⟨gk, rfl, HGN⟩, HBR⟩
                      | ((repeat apply Exists.intro)
                         refine ⟨⟨j + 1, by omega, ?_, ⟨gk, rfl, HGN⟩, HBR⟩, rfl⟩
                         go_num)
    · obtain rfl : j = cn := by omega
      have et := List.take_of_length_le (l := p.classes) (i := j) (by rw [HN.out]; exact Nat.le_refl _)
      have HE : Hid (g = checkB p) := by have := HGJ.out; rw [et] at this; exact this
      clear et
      cases g with
      | false =>
        go_wp2
        go_ret
        exact ⟨by rw [← HE.out]; rfl, HB.out⟩
      | true =>
        go_wp2
        go_ret
        exact ⟨by rw [← HE.out]; rfl, HB.out⟩
end Go.Proofs.Ytjciafpihdbedaa
end
section
/- The reference's Check. -/
namespace Go.Proofs.Ytjciafpihdbedaa
open Go.RowKit

theorem all_false {α : Type} {l : List α} {p : α → Bool} {k : Nat} {y : α} (h : l[k]? = some y) (hy : p y = false) : l.all p = false := by
  rw [Bool.eq_false_iff]; intro ha
  rw [List.all_eq_true] at ha
  have := ha y (List.mem_of_getElem? h)
  rw [hy] at this; cases this

set_option maxHeartbeats 8000000 in
theorem refCheck_any (d : Nat) (w : World) (v : Value) (p : Program) (hp : RProgram d w (· < w.heap.size) v p) :
    Calls Try.prog 27 #[v] w fun e w' => e = .returned (.int .i64 (treeErr (checkB p))) ∧ Below w.heap.size w w' := by
  obtain ⟨cv, mv, rfl, hC, hS⟩ := hp
  obtain ⟨ca, cn, ccap, rfl, hn, hcap, hmax, hel⟩ := hC
  obtain ⟨ma, mn, mcap, rfl⟩ := RSl.shape hS
  have H := Lib.hid hel
  have HN := Lib.hid hn
  have HS := Lib.hid hS
  unfold maxC at hmax
  clear hel hn hS
  go_enter Try.func27, Try.ntmps27
  go_wp2
  go_loopw [10] (fun v10 w' => ∃ j : Nat, j ≤ cn ∧ v10 = .int .i64 j ∧ Hid ((p.classes.take j).all classB = true) ∧ Hid (Below w.heap.size w w') ∧ w'.cell? ⟨w.heap.size, 1, none⟩ = some (.slice ma mn mcap)) (fun v10 _ => cn - (intOf v10).toNat)
  case atStart => exact ⟨0, by omega, rfl, rfl, by show Below w.heap.size w _; go_grown, by simp⟩
  case round =>
    obtain ⟨j, hj, rfl, HGJ, HB, k1⟩ := hrel
    by_cases hlt : j < cn
    · obtain ⟨x, hx⟩ : ∃ x, p.classes[j]? = some x := ⟨_, List.getElem?_eq_getElem (by rw [HN.out]; exact hlt)⟩
      have HX := Lib.hid hx
      clear hx
      obtain ⟨b, off, cs, rfl, hbl, hc, fv, mv, rfl, wn, wu, hf, hm⟩ := H.out j _ HX.out
      have HF := Lib.hid hf
      obtain ⟨fa, fn, fcap, rfl⟩ := RSl.shape hf
      obtain ⟨a, n, cap, rfl, hn, hcap1, hmax1, hel⟩ := hm
      obtain ⟨c0, c1, c2, c3, -⟩ := cellsAt_of_block (HB.out.block b hbl) hc
      have H2 := Lib.hid hel
      have HN2 := Lib.hid hn
      unfold maxC at hmax1
      clear hel hn hf hc
      obtain ⟨wo, rfl⟩ : ∃ wo : World, wo = wr := ⟨_, rfl⟩
      have HBA : Hid (∀ X, Below w.heap.size w (wo.alloc X)) := fun X => HB.out.alloc HB.out.size X
      go_wp2_with fail
      refine (refIsName_any _ wn _).mono ?_
      rintro e w' ⟨rfl, rfl⟩
      cases h1 : isNameB x.name with
      | false =>
        have HNO : Hid (treeErr (checkB p) = 30) := by
          have hx : classB x = false := (by simp [classB, classTop, h1])
          show treeErr (checkB p) = 30
          unfold checkB
          rw [all_false HX.out hx]; simp [treeErr]
        go_wp2
        go_ret
        refine ⟨by rw [HNO.out]; rfl, ?_⟩
        exact HBA.out _
      | true =>
        cases h2 : x.super.toList.isEmpty with
        | true =>
          have h2' : (!x.super.toList.isEmpty) = false := by rw [h2]; rfl
          go_wp2_with fail
          refine (maySlots_any _ _ x.fields (HF.out.mono (fun k hk => Nat.lt_of_lt_of_le hk (HBA.out _).size) (fun k hk => (HBA.out _).block k hk))).mono ?_
          rintro e w2 ⟨rfl, hb2⟩
          have HBI : Hid (Below w.heap.size w w2) := afterCall (HBA.out _) hb2
          have q3 : w2.cell? ⟨wo.heap.size, 3, none⟩ = some (.slice a n cap) := (hb2.cell (by simp)).trans (by simp)
          have q1 := next (o := 1) hb2 (next (by go_grown) k1)
          clear hb2
          cases h4 : x.fields.all slotB with
          | false =>
            have HNO : Hid (treeErr (checkB p) = 30) := by
              have hx : classB x = false := (by simp [classB, classTop, h4])
              show treeErr (checkB p) = 30
              unfold checkB
              rw [all_false HX.out hx]; simp [treeErr]
            go_wp2
            go_ret
            refine ⟨by rw [HNO.out]; rfl, ?_⟩
            exact HBI.out
          | true =>
            have HCT : Hid (classTop x = true) := by show classTop x = true; simp [classTop, *]
            go_wp2
            go_loopw [38] (fun v38 w' => ∃ k : Nat, k ≤ n ∧ v38 = .int .i64 k ∧ Hid ((x.methods.take k).all methodB = true) ∧ Hid (Below w.heap.size w w') ∧ w'.cell? ⟨w.heap.size, 1, none⟩ = some (.slice ma mn mcap)) (fun v38 _ => n - (intOf v38).toNat)
            case atStart => exact ⟨0, by omega, rfl, rfl, HBI, q1⟩
            case round =>
              clear k1
              obtain ⟨k, hk, rfl, HGK, HBR, k1⟩ := hrel
              by_cases hlt2 : k < n
              · obtain ⟨y, hy⟩ : ∃ y, x.methods[k]? = some y := ⟨_, List.getElem?_eq_getElem (by rw [HN2.out]; exact hlt2)⟩
                have HY := Lib.hid hy
                clear hy
                obtain ⟨b', off', cs', rfl, hbl', hc, pv, bv, rfl, wt, ws, hpv, hbv⟩ := H2.out k _ HY.out
                have HPV := Lib.hid hpv
                have HBV := Lib.hid hbv
                obtain ⟨pa, pn, pcap, rfl, hpn, hpc, hpm, -⟩ := hpv
                obtain ⟨ba, bn, bcap, rfl⟩ := RSl.shape hbv
                obtain ⟨e0, e1, e2, e3, -⟩ := cellsAt_of_block (HBR.out.block b' hbl') hc
                have HPN := Lib.hid hpn
                unfold maxC at hpm
                have HBA : Hid (∀ X, Below w.heap.size w (wr.alloc X)) := fun X => HBR.out.alloc HBR.out.size X
                clear hbv hc hpn
                go_wp2_with fail
                refine (refType_any _ wt _).mono ?_
                rintro e w' ⟨rfl, rfl⟩
                cases h1 : isTypeB y.type with
                | false =>
                  have HBE : Hid (∀ X, Below w.heap.size w (wr.alloc X)) := HBA
                  have HNO : Hid (treeErr (checkB p) = 30) := by
                    have hx : classB x = false := (by have hm : methodB y = false := (by simp [methodB, slotB, h1]); unfold classB; rw [all_false HY.out hm]; simp)
                    show treeErr (checkB p) = 30
                    unfold checkB
                    rw [all_false HX.out hx]; simp [treeErr]
                  go_wp2
                  go_ret
                  refine ⟨by rw [HNO.out]; rfl, ?_⟩
                  exact HBE.out _
                | true =>
                  go_wp2_with fail
                  refine (refIsName_any _ ws _).mono ?_
                  rintro e w' ⟨rfl, rfl⟩
                  cases h2 : isNameB y.name with
                  | false =>
                    have HBE : Hid (∀ X, Below w.heap.size w (wr.alloc X)) := HBA
                    have HNO : Hid (treeErr (checkB p) = 30) := by
                      have hx : classB x = false := (by have hm : methodB y = false := (by simp [methodB, slotB, h2]); unfold classB; rw [all_false HY.out hm]; simp)
                      show treeErr (checkB p) = 30
                      unfold checkB
                      rw [all_false HX.out hx]; simp [treeErr]
                    go_wp2
                    go_ret
                    refine ⟨by rw [HNO.out]; rfl, ?_⟩
                    exact HBE.out _
                  | true =>
                    by_cases hp4 : pn ≤ 4
                    · have HP4 : Hid (decide (y.params.length ≤ 4) = true) := by show decide _ = true; rw [HPN.out]; simp [hp4]
                      go_wp2_with fail
                      refine (maySlots_any _ _ y.params (HPV.out.mono (fun k hk => Nat.lt_of_lt_of_le hk (HBA.out _).size) (fun k hk => (HBA.out _).block k hk))).mono ?_
                      rintro e w2 ⟨rfl, hb2⟩
                      have HBE : Hid (Below w.heap.size w w2) := afterCall (HBA.out _) hb2
                      have q3 : w2.cell? ⟨wr.heap.size, 3, none⟩ = some (.slice ba bn bcap) := (hb2.cell (by simp)).trans (by simp)
                      have s0 := next (o := 1) hb2 (next (by go_grown) k1)
                      clear hb2 HBA
                      cases h3 : y.params.all slotB with
                      | false =>
                        have HNO : Hid (treeErr (checkB p) = 30) := by
                          have hx : classB x = false := (by have hm : methodB y = false := (by simp [methodB, h3]); unfold classB; rw [all_false HY.out hm]; simp)
                          show treeErr (checkB p) = 30
                          unfold checkB
                          rw [all_false HX.out hx]; simp [treeErr]
                        go_wp2
                        go_ret
                        refine ⟨by rw [HNO.out]; rfl, ?_⟩
                        exact HBE.out
                      | true =>
                        go_wp2_with fail
                        refine (mayStmts_any d w2 _ y.body (HBV.out.mono (fun k hk => Nat.lt_of_lt_of_le hk HBE.out.size) (fun k hk => HBE.out.block k hk))).mono ?_
                        rintro e w3 ⟨rfl, hb3⟩
                        have HBE1 := HBE
                        clear HBE
                        have HBE := nextB hb3 HBE1
                        have s1 := next (o := 1) hb3 s0
                        clear hb3 q3 HBE1 s0
                        cases h4 : y.body.all stmtB with
                        | false =>
                          have HNO : Hid (treeErr (checkB p) = 30) := by
                            have hx : classB x = false := (by have hm : methodB y = false := (by simp [methodB, h4]); unfold classB; rw [all_false HY.out hm]; simp)
                            show treeErr (checkB p) = 30
                            unfold checkB
                            rw [all_false HX.out hx]; simp [treeErr]
                          go_wp2
                          go_ret
                          refine ⟨by rw [HNO.out]; rfl, ?_⟩
                          exact HBE.out
                        | true =>
                          have HGN : Hid ((x.methods.take (k + 1)).all methodB = true) := by
                            show (x.methods.take (k + 1)).all methodB = true
                            rw [all_take_succ HY.out, HGK.out]
                            have h5 := HP4.out
                            unfold methodB; rw [h5]; simp [slotB, h1, h2, h3, h4]
                          go_wp2
                          refine ⟨?_, by simp [intOf]; omega⟩
                          first
                            | exact ⟨k + 1, by omega, by go_num, HGN, HBE, s1⟩
                            | ((repeat apply Exists.intro)
                               refine ⟨⟨k + 1, by omega, ?_, HGN, HBE, s1⟩, rfl⟩
                               go_num)
                    · have hgt : 4 < pn := by omega
                      have HBE : Hid (∀ X, Below w.heap.size w (wr.alloc X)) := HBA
                      have h5 : decide (y.params.length ≤ 4) = false := by rw [HPN.out]; simp; omega
                      have hm0 : methodB y = false := by unfold methodB; rw [h5]; simp
                      clear h5
                      have HNO : Hid (treeErr (checkB p) = 30) := by
                        have hx : classB x = false := (by unfold classB; rw [all_false HY.out hm0]; simp)
                        show treeErr (checkB p) = 30
                        unfold checkB
                        rw [all_false HX.out hx]; simp [treeErr]
                      go_wp2
                      go_ret
                      refine ⟨by rw [HNO.out]; rfl, ?_⟩
                      exact HBE.out _
              · obtain rfl : k = n := by omega
                have et := List.take_of_length_le (l := x.methods) (i := k) (by rw [HN2.out]; exact Nat.le_refl _)
                have HGN : Hid ((p.classes.take (j + 1)).all classB = true) := by
                  show (p.classes.take (j + 1)).all classB = true
                  have h5 := HGK.out
                  rw [et] at h5
                  rw [all_take_succ HX.out, HGJ.out]
                  simp only [classB, h5, HCT.out]; rfl
                clear et
                go_wp2
                refine ⟨?_, by simp [intOf]; omega⟩
                first
                  | exact ⟨j + 1, by omega, by go_num, HGN, HBR, k1⟩
                  | ((repeat apply Exists.intro)
                     refine ⟨⟨j + 1, by omega, ?_, HGN, HBR, k1⟩, rfl⟩
                     go_num)
        | false =>
          have h2' : (!x.super.toList.isEmpty) = true := by rw [h2]; rfl
          go_wp2_with fail
          refine (refIsName_any _ wu _).mono ?_
          rintro e w' ⟨rfl, rfl⟩
          cases h3 : isNameB x.super with
          | false =>
            have HNO : Hid (treeErr (checkB p) = 30) := by
              have hx : classB x = false := (by simp only [classB, classTop, h2, h3]; simp)
              show treeErr (checkB p) = 30
              unfold checkB
              rw [all_false HX.out hx]; simp [treeErr]
            go_wp2
            go_ret
            refine ⟨by rw [HNO.out]; rfl, ?_⟩
            exact HBA.out _
          | true =>
            go_wp2_with fail
            refine (maySlots_any _ _ x.fields (HF.out.mono (fun k hk => Nat.lt_of_lt_of_le hk (HBA.out _).size) (fun k hk => (HBA.out _).block k hk))).mono ?_
            rintro e w2 ⟨rfl, hb2⟩
            have HBI : Hid (Below w.heap.size w w2) := afterCall (HBA.out _) hb2
            have q3 : w2.cell? ⟨wo.heap.size, 3, none⟩ = some (.slice a n cap) := (hb2.cell (by simp)).trans (by simp)
            have q1 := next (o := 1) hb2 (next (by go_grown) k1)
            clear hb2
            cases h4 : x.fields.all slotB with
            | false =>
              have HNO : Hid (treeErr (checkB p) = 30) := by
                have hx : classB x = false := (by simp [classB, classTop, h4])
                show treeErr (checkB p) = 30
                unfold checkB
                rw [all_false HX.out hx]; simp [treeErr]
              go_wp2
              go_ret
              refine ⟨by rw [HNO.out]; rfl, ?_⟩
              exact HBI.out
            | true =>
              have HCT : Hid (classTop x = true) := by show classTop x = true; simp [classTop, *]
              go_wp2
              go_loopw [38] (fun v38 w' => ∃ k : Nat, k ≤ n ∧ v38 = .int .i64 k ∧ Hid ((x.methods.take k).all methodB = true) ∧ Hid (Below w.heap.size w w') ∧ w'.cell? ⟨w.heap.size, 1, none⟩ = some (.slice ma mn mcap)) (fun v38 _ => n - (intOf v38).toNat)
              case atStart => exact ⟨0, by omega, rfl, rfl, HBI, q1⟩
              case round =>
                clear k1
                obtain ⟨k, hk, rfl, HGK, HBR, k1⟩ := hrel
                by_cases hlt2 : k < n
                · obtain ⟨y, hy⟩ : ∃ y, x.methods[k]? = some y := ⟨_, List.getElem?_eq_getElem (by rw [HN2.out]; exact hlt2)⟩
                  have HY := Lib.hid hy
                  clear hy
                  obtain ⟨b', off', cs', rfl, hbl', hc, pv, bv, rfl, wt, ws, hpv, hbv⟩ := H2.out k _ HY.out
                  have HPV := Lib.hid hpv
                  have HBV := Lib.hid hbv
                  obtain ⟨pa, pn, pcap, rfl, hpn, hpc, hpm, -⟩ := hpv
                  obtain ⟨ba, bn, bcap, rfl⟩ := RSl.shape hbv
                  obtain ⟨e0, e1, e2, e3, -⟩ := cellsAt_of_block (HBR.out.block b' hbl') hc
                  have HPN := Lib.hid hpn
                  unfold maxC at hpm
                  have HBA : Hid (∀ X, Below w.heap.size w (wr.alloc X)) := fun X => HBR.out.alloc HBR.out.size X
                  clear hbv hc hpn
                  go_wp2_with fail
                  refine (refType_any _ wt _).mono ?_
                  rintro e w' ⟨rfl, rfl⟩
                  cases h1 : isTypeB y.type with
                  | false =>
                    have HBE : Hid (∀ X, Below w.heap.size w (wr.alloc X)) := HBA
                    have HNO : Hid (treeErr (checkB p) = 30) := by
                      have hx : classB x = false := (by have hm : methodB y = false := (by simp [methodB, slotB, h1]); unfold classB; rw [all_false HY.out hm]; simp)
                      show treeErr (checkB p) = 30
                      unfold checkB
                      rw [all_false HX.out hx]; simp [treeErr]
                    go_wp2
                    go_ret
                    refine ⟨by rw [HNO.out]; rfl, ?_⟩
                    exact HBE.out _
                  | true =>
                    go_wp2_with fail
                    refine (refIsName_any _ ws _).mono ?_
                    rintro e w' ⟨rfl, rfl⟩
                    cases h2 : isNameB y.name with
                    | false =>
                      have HBE : Hid (∀ X, Below w.heap.size w (wr.alloc X)) := HBA
                      have HNO : Hid (treeErr (checkB p) = 30) := by
                        have hx : classB x = false := (by have hm : methodB y = false := (by simp [methodB, slotB, h2]); unfold classB; rw [all_false HY.out hm]; simp)
                        show treeErr (checkB p) = 30
                        unfold checkB
                        rw [all_false HX.out hx]; simp [treeErr]
                      go_wp2
                      go_ret
                      refine ⟨by rw [HNO.out]; rfl, ?_⟩
                      exact HBE.out _
                    | true =>
                      by_cases hp4 : pn ≤ 4
                      · have HP4 : Hid (decide (y.params.length ≤ 4) = true) := by show decide _ = true; rw [HPN.out]; simp [hp4]
                        go_wp2_with fail
                        refine (maySlots_any _ _ y.params (HPV.out.mono (fun k hk => Nat.lt_of_lt_of_le hk (HBA.out _).size) (fun k hk => (HBA.out _).block k hk))).mono ?_
                        rintro e w2 ⟨rfl, hb2⟩
                        have HBE : Hid (Below w.heap.size w w2) := afterCall (HBA.out _) hb2
                        have q3 : w2.cell? ⟨wr.heap.size, 3, none⟩ = some (.slice ba bn bcap) := (hb2.cell (by simp)).trans (by simp)
                        have s0 := next (o := 1) hb2 (next (by go_grown) k1)
                        clear hb2 HBA
                        cases h3 : y.params.all slotB with
                        | false =>
                          have HNO : Hid (treeErr (checkB p) = 30) := by
                            have hx : classB x = false := (by have hm : methodB y = false := (by simp [methodB, h3]); unfold classB; rw [all_false HY.out hm]; simp)
                            show treeErr (checkB p) = 30
                            unfold checkB
                            rw [all_false HX.out hx]; simp [treeErr]
                          go_wp2
                          go_ret
                          refine ⟨by rw [HNO.out]; rfl, ?_⟩
                          exact HBE.out
                        | true =>
                          go_wp2_with fail
                          refine (mayStmts_any d w2 _ y.body (HBV.out.mono (fun k hk => Nat.lt_of_lt_of_le hk HBE.out.size) (fun k hk => HBE.out.block k hk))).mono ?_
                          rintro e w3 ⟨rfl, hb3⟩
                          have HBE1 := HBE
                          clear HBE
                          have HBE := nextB hb3 HBE1
                          have s1 := next (o := 1) hb3 s0
                          clear hb3 q3 HBE1 s0
                          cases h4 : y.body.all stmtB with
                          | false =>
                            have HNO : Hid (treeErr (checkB p) = 30) := by
                              have hx : classB x = false := (by have hm : methodB y = false := (by simp [methodB, h4]); unfold classB; rw [all_false HY.out hm]; simp)
                              show treeErr (checkB p) = 30
                              unfold checkB
                              rw [all_false HX.out hx]; simp [treeErr]
                            go_wp2
                            go_ret
                            refine ⟨by rw [HNO.out]; rfl, ?_⟩
                            exact HBE.out
                          | true =>
                            have HGN : Hid ((x.methods.take (k + 1)).all methodB = true) := by
                              show (x.methods.take (k + 1)).all methodB = true
                              rw [all_take_succ HY.out, HGK.out]
                              have h5 := HP4.out
                              unfold methodB; rw [h5]; simp [slotB, h1, h2, h3, h4]
                            go_wp2
                            refine ⟨?_, by simp [intOf]; omega⟩
                            first
                              | exact ⟨k + 1, by omega, by go_num, HGN, HBE, s1⟩
                              | ((repeat apply Exists.intro)
                                 refine ⟨⟨k + 1, by omega, ?_, HGN, HBE, s1⟩, rfl⟩
                                 go_num)
                      · have hgt : 4 < pn := by omega
                        have HBE : Hid (∀ X, Below w.heap.size w (wr.alloc X)) := HBA
                        have h5 : decide (y.params.length ≤ 4) = false := by rw [HPN.out]; simp; omega
                        have hm0 : methodB y = false := by unfold methodB; rw [h5]; simp
                        clear h5
                        have HNO : Hid (treeErr (checkB p) = 30) := by
                          have hx : classB x = false := (by unfold classB; rw [all_false HY.out hm0]; simp)
                          show treeErr (checkB p) = 30
                          unfold checkB
                          rw [all_false HX.out hx]; simp [treeErr]
                        go_wp2
                        go_ret
                        refine ⟨by rw [HNO.out]; rfl, ?_⟩
                        exact HBE.out _
                · obtain rfl : k = n := by omega
                  have et := List.take_of_length_le (l := x.methods) (i := k) (by rw [HN2.out]; exact Nat.le_refl _)
                  have HGN : Hid ((p.classes.take (j + 1)).all classB = true) := by
                    show (p.classes.take (j + 1)).all classB = true
                    have h5 := HGK.out
                    rw [et] at h5
                    rw [all_take_succ HX.out, HGJ.out]
                    simp only [classB, h5, HCT.out]; rfl
                  clear et
                  go_wp2
                  refine ⟨?_, by simp [intOf]; omega⟩
                  first
                    | exact ⟨j + 1, by omega, by go_num, HGN, HBR, k1⟩
                    | ((repeat apply Exists.intro)
                       refine ⟨⟨j + 1, by omega, ?_, HGN, HBR, k1⟩, rfl⟩
                       go_num)
    · obtain rfl : j = cn := by omega
      have et := List.take_of_length_le (l := p.classes) (i := j) (by rw [HN.out]; exact Nat.le_refl _)
      have HE : Hid (checkB p = p.main.all stmtB) := by
        have h5 := HGJ.out
        rw [et] at h5
        show checkB p = _
        unfold checkB; rw [h5]; simp
      clear et
      go_wp2_with fail
      refine (mayStmts_any d _ _ p.main (HS.out.mono (fun k hk => Nat.lt_of_lt_of_le hk HB.out.size) (fun k hk => HB.out.block k hk))).mono ?_
      rintro e w2 ⟨rfl, hb2⟩
      have HB2 := nextB hb2 HB
      clear hb2
      cases hq : p.main.all stmtB with
      | false =>
        go_wp2
        go_ret
        exact ⟨by rw [HE.out, hq]; rfl, HB2.out⟩
      | true =>
        go_wp2
        go_ret
        exact ⟨by rw [HE.out, hq]; rfl, HB2.out⟩
end Go.Proofs.Ytjciafpihdbedaa
end
section
/- Which class has a name: the closure of up's own, slices.IndexFunc over classes. -/
namespace Go.Proofs.Ytjciafpihdbedaa
open Go.RowKit

theorem cls_named (nm su : ByteArray) (fv mv : Value) (nb : Nat) (name : ByteArray) (w : World) (hn : w.cell? ⟨nb, 0, none⟩ = some (.string name)) :
    Calls Try.prog 58 #[.agg #[.string nm, .string su, fv, mv], .pointer (some ⟨nb, 0, none⟩)] w fun e w' => e = .returned (.bool (nm.toList == name.toList)) ∧ Below w.heap.size w w' := by
  have hlt := cell_lt hn
  have hlt : nb < w.heap.size := hlt
  have hne : ¬ nb = w.heap.size := by omega
  go_enter Try.func58, Try.ntmps58
  go_wp2
  go_ret
  exact ⟨rfl, by go_grown⟩
theorem indexClass_any {α : Type} (R : List Value → α → Prop) (l : List α) (p : α → Bool) (g : FuncId) (c : Nat) (v : Value) (w : World) (hg : ∀ args W, (callFunc g args).run Try.prog W = .ok (.enter g args) W) (hlen : ∀ cs x, R cs x → cs.length = 4) (hv : RSl 4 R w (· < w.heap.size) v l)
    (HF : Hid (∀ (W : World) cs x, Below w.heap.size w W → x ∈ l → R cs x → Calls Try.prog g #[.agg cs.toArray, .pointer (some ⟨c, 0, none⟩)] W fun e w' => e = .returned (.bool (p x)) ∧ Below W.heap.size W w')) :
    Calls Try.prog 45 #[v, .func (.func g) #[] #[.pointer (some ⟨c, 0, none⟩)]] w fun e w' => e = .returned (.int .i64 (idxB p l)) ∧ Below w.heap.size w w' := by
  obtain ⟨a, n, cap, rfl, hn, hcap, hmax, hel⟩ := hv
  have H := Lib.hid hel
  have HN := Lib.hid hn
  have HL := Lib.hid hlen
  unfold maxC at hmax
  clear hel hn hlen
  go_enter Try.func45, Try.ntmps45
  go_wp2
  go_loopw [8] (fun v8 w' => ∃ j : Nat, j ≤ n ∧ v8 = .int .i64 j ∧ Hid (∀ y ∈ l.take j, p y = false) ∧ Hid (Below w.heap.size w w')) (fun v8 _ => n - (intOf v8).toNat)
  case atStart => exact ⟨0, by omega, rfl, (by show ∀ y ∈ l.take 0, p y = false; simp), Below.refl _ _⟩
  case round =>
    obtain ⟨j, hj, rfl, HP, HB⟩ := hrel
    by_cases hlt : j < n
    · obtain ⟨x, hx⟩ : ∃ x, l[j]? = some x := ⟨_, List.getElem?_eq_getElem (by rw [HN.out]; exact hlt)⟩
      have HX := Lib.hid hx
      clear hx
      obtain ⟨b, off, cs, rfl, hbl, hc, hr⟩ := H.out j _ HX.out
      obtain ⟨u0, u1, u2, u3, rfl⟩ := len4 (HL.out _ _ hr)
      have HR := Lib.hid hr
      have HC := cellsAt_of_block (HB.out.block b hbl) hc
      simp only [cellsAt, and_true] at HC
      obtain ⟨c0, c1, c2, c3⟩ := HC
      clear hc hr
      go_wp2_with fail
      refine (HF.out _ _ _ HB.out (List.mem_of_getElem? HX.out) HR.out).mono ?_
      rintro e w1 ⟨rfl, hb1⟩
      have HB1 : Hid (Below w.heap.size w w1) := HB.out.trans (hb1.mono HB.out.size)
      clear hb1
      cases hp : p x with
      | true =>
        go_wp2
        go_ret
        exact ⟨by rw [idxB_hit p l j x HX.out hp HP.out]; rfl, HB1.out⟩
      | false =>
        go_wp2
        refine ⟨⟨j + 1, by omega, by go_num, ?_, HB1⟩, by simp [intOf]; omega⟩
        show ∀ y ∈ l.take (j + 1), p y = false
        rw [List.take_add_one, HX.out]
        intro y hy
        simp only [Option.toList_some, List.mem_append, List.mem_singleton] at hy
        rcases hy with hy | rfl
        · exact HP.out y hy
        · exact hp
    · obtain rfl : j = n := by omega
      have et := List.take_of_length_le (l := l) (i := j) (by rw [HN.out]; exact Nat.le_refl _)
      have HE : Hid (idxB p l = -1) := idxB_none p l (by have := HP.out; rw [et] at this; exact this)
      clear et
      go_wp2
      go_ret
      exact ⟨by rw [HE.out]; rfl, HB.out⟩

theorem containsClass_any {α : Type} (R : List Value → α → Prop) (l : List α) (p : α → Bool) (g : FuncId) (c : Nat) (v : Value) (w : World) (hg : ∀ args W, (callFunc g args).run Try.prog W = .ok (.enter g args) W) (hlen : ∀ cs x, R cs x → cs.length = 4) (hv : RSl 4 R w (· < w.heap.size) v l)
    (HF : Hid (∀ (W : World) cs x, Below w.heap.size w W → x ∈ l → R cs x → Calls Try.prog g #[.agg cs.toArray, .pointer (some ⟨c, 0, none⟩)] W fun e w' => e = .returned (.bool (p x)) ∧ Below W.heap.size W w')) :
    Calls Try.prog 24 #[v, .func (.func g) #[] #[.pointer (some ⟨c, 0, none⟩)]] w fun e w' => e = .returned (.bool (l.any p)) ∧ Below w.heap.size w w' := by
  have HL := Lib.hid hlen
  have HV := Lib.hid hv
  clear hlen hv
  have HG := Lib.hid hg
  clear hg
  go_enter Try.func24, Try.ntmps24
  go_wp2_with fail
  refine (indexClass_any R l p g c v w HG.out HL.out HV.out HF).mono ?_
  rintro e w' ⟨rfl, hb⟩
  have HB := Lib.hid hb
  clear hb
  go_wp2
  go_ret
  exact ⟨by rw [← idxB_any]; rfl, HB.out⟩

theorem indexMethod_any {α : Type} (R : List Value → α → Prop) (l : List α) (p : α → Bool) (g : FuncId) (c : Nat) (v : Value) (w : World) (hg : ∀ args W, (callFunc g args).run Try.prog W = .ok (.enter g args) W) (hlen : ∀ cs x, R cs x → cs.length = 4) (hv : RSl 4 R w (· < w.heap.size) v l)
    (HF : Hid (∀ (W : World) cs x, Below w.heap.size w W → x ∈ l → R cs x → Calls Try.prog g #[.agg cs.toArray, .pointer (some ⟨c, 0, none⟩)] W fun e w' => e = .returned (.bool (p x)) ∧ Below W.heap.size W w')) :
    Calls Try.prog 48 #[v, .func (.func g) #[] #[.pointer (some ⟨c, 0, none⟩)]] w fun e w' => e = .returned (.int .i64 (idxB p l)) ∧ Below w.heap.size w w' := by
  obtain ⟨a, n, cap, rfl, hn, hcap, hmax, hel⟩ := hv
  have H := Lib.hid hel
  have HN := Lib.hid hn
  have HL := Lib.hid hlen
  unfold maxC at hmax
  clear hel hn hlen
  go_enter Try.func48, Try.ntmps48
  go_wp2
  go_loopw [8] (fun v8 w' => ∃ j : Nat, j ≤ n ∧ v8 = .int .i64 j ∧ Hid (∀ y ∈ l.take j, p y = false) ∧ Hid (Below w.heap.size w w')) (fun v8 _ => n - (intOf v8).toNat)
  case atStart => exact ⟨0, by omega, rfl, (by show ∀ y ∈ l.take 0, p y = false; simp), Below.refl _ _⟩
  case round =>
    obtain ⟨j, hj, rfl, HP, HB⟩ := hrel
    by_cases hlt : j < n
    · obtain ⟨x, hx⟩ : ∃ x, l[j]? = some x := ⟨_, List.getElem?_eq_getElem (by rw [HN.out]; exact hlt)⟩
      have HX := Lib.hid hx
      clear hx
      obtain ⟨b, off, cs, rfl, hbl, hc, hr⟩ := H.out j _ HX.out
      obtain ⟨u0, u1, u2, u3, rfl⟩ := len4 (HL.out _ _ hr)
      have HR := Lib.hid hr
      have HC := cellsAt_of_block (HB.out.block b hbl) hc
      simp only [cellsAt, and_true] at HC
      obtain ⟨c0, c1, c2, c3⟩ := HC
      clear hc hr
      go_wp2_with fail
      refine (HF.out _ _ _ HB.out (List.mem_of_getElem? HX.out) HR.out).mono ?_
      rintro e w1 ⟨rfl, hb1⟩
      have HB1 : Hid (Below w.heap.size w w1) := HB.out.trans (hb1.mono HB.out.size)
      clear hb1
      cases hp : p x with
      | true =>
        go_wp2
        go_ret
        exact ⟨by rw [idxB_hit p l j x HX.out hp HP.out]; rfl, HB1.out⟩
      | false =>
        go_wp2
        refine ⟨⟨j + 1, by omega, by go_num, ?_, HB1⟩, by simp [intOf]; omega⟩
        show ∀ y ∈ l.take (j + 1), p y = false
        rw [List.take_add_one, HX.out]
        intro y hy
        simp only [Option.toList_some, List.mem_append, List.mem_singleton] at hy
        rcases hy with hy | rfl
        · exact HP.out y hy
        · exact hp
    · obtain rfl : j = n := by omega
      have et := List.take_of_length_le (l := l) (i := j) (by rw [HN.out]; exact Nat.le_refl _)
      have HE : Hid (idxB p l = -1) := idxB_none p l (by have := HP.out; rw [et] at this; exact this)
      clear et
      go_wp2
      go_ret
      exact ⟨by rw [HE.out]; rfl, HB.out⟩

def namedB (name : ByteArray) (c : Class) : Bool := c.name.toList == name.toList
theorem indexNamed (d : Nat) (cv : Value) (l : List Class) (name : ByteArray) (nb : Nat) (w : World) (hv : RClasses d w (· < w.heap.size) cv l) (hn : w.cell? ⟨nb, 0, none⟩ = some (.string name)) :
    Calls Try.prog 45 #[cv, .func (.func 58) #[] #[.pointer (some ⟨nb, 0, none⟩)]] w fun e w' => e = .returned (.int .i64 (idxB (namedB name) l)) ∧ Below w.heap.size w w' := by
  refine indexClass_any (RClass d w (· < w.heap.size)) l (namedB name) _ nb cv w (fun _ _ => by kernel_rfl) (fun cs x h => by obtain ⟨fv, mv, rfl, -⟩ := h; rfl) hv (fun W cs x hb _ hr => ?_)
  obtain ⟨fv, mv, rfl, -⟩ := hr
  exact cls_named _ _ _ _ _ _ _ (next hb hn)
end Go.Proofs.Ytjciafpihdbedaa
end
section
/- A slice of the call's own that grows by append. -/
namespace Go.Proofs.Ytjciafpihdbedaa
open Go.RowKit

/-- Nothing that stood there has changed; a slice holds these cells, in a block that was made since. -/
structure Own (w0 wr : World) (e : TypeId) (sz : Nat) (v : Value) (n : Nat) (cells : List Value) : Prop where
  below : Below w0.heap.size w0 wr
  own : wr.ownsRow w0.heap.size e sz v n cells
theorem Own.start (w0 : World) (e : TypeId) (sz : Nat) : Own w0 w0 e sz (.slice none 0 0) 0 [] := ⟨Below.refl _ _, World.ownsRow_nil _ _ _ _⟩
theorem Own.begin {w0 wr : World} (h : Below w0.heap.size w0 wr) (e : TypeId) (sz : Nat) : Own w0 wr e sz (.slice none 0 0) 0 [] := ⟨h, World.ownsRow_nil _ _ _ _⟩
section
variable {w0 wr w1 : World} {e : TypeId} {sz n : Nat} {v : Value} {cells : List Value}
theorem Own.more (h : Own w0 wr e sz v n cells) (hb : Below wr.heap.size wr w1) : Own w0 w1 e sz v n cells :=
  ⟨h.below.trans (hb.mono h.below.size), h.own.kept (row := none) ⟨hb.os, hb.tape, hb.output, hb.size, fun k hk _ => hb.block k hk⟩ (by
    cases hq : v.ownBlock with
    | none => exact .inl rfl
    | some b => exact .inr (by simp))⟩
theorem Own.alloc (h : Own w0 wr e sz v n cells) (o : Obj) : Own w0 (wr.alloc o) e sz v n cells := h.more ((Below.refl _ _).alloc (Nat.le_refl _) _)
theorem Own.push {v' : Value} {n' : Nat} {cells' : List Value} (h : Own w0 wr e sz v n cells) (hg : wr.grownBy w1 v.ownBlock) (hown : w1.ownsRow w0.heap.size e sz v' n' cells') : Own w0 w1 e sz v' n' cells' :=
  ⟨h.below.grown hg h.below.size (fun q hq => (h.own.lt q hq).1), hown⟩
theorem Own.shape (h : Own w0 wr e sz v n cells) : ∃ a cap, v = .slice a n cap := by
  rcases h.own.2 with ⟨h1, h2⟩ | ⟨g, cap, cur, h1, -⟩
  · exact ⟨none, 0, by rw [h1, h2]⟩
  · exact ⟨_, cap, h1⟩
theorem Own.len (h : Own w0 wr e sz v n cells) : cells.length = n * sz := h.own.1
end
theorem news_new (wr : World) (cs : Array Value) (e : TypeId) : ∀ (j : Nat) (u : Value), cs.toList[j]? = some u → (wr.alloc (.cells cs e)).cell? ((Addr.mk wr.heap.size 0 none).add j) = some u :=
  World.news_of_block (heap_alloc_new wr (.cells cs e))
/-- An append of elements that have just been laid into a block of their own. -/
theorem wpList_push {P : Go.Program} {ops : Array Oper} {rest : List Oper} {o : Oper} {a : Act} {Q : Exit → Act → World → Prop} (e : TypeId) (size bytes : Nat) (z : Value) (hi : (P.info? e).map (fun i => (i.zero, i.size, i.bytes)) = some (some z, size, bytes)) (hzs : z.cells.size = size) (hsz : 0 < size)
    (hgd : o.guard = none) (s x : Operand) (t : TypeId) (ho : o.op = .call { callee := .builtin .append, args := #[s, x], argTypes := #[t, t] }) (ht : P.underlying t = some (.slice e))
    {w0 wr : World} {v : Value} {n m : Nat} {xs : List Value} {cs : Array Value} (hs : a.eval s = v) (hown : Own w0 wr e size v n xs) {H : Nat} (hx : a.eval x = .slice (some ⟨H, 0, none⟩) m m) (hH : wr.heap.size = H) (hl : cs.size = m * size) (h1 : ∀ u ∈ cs.toList, u.oneCell' = true)
    (hm : 0 < m) (h63 : n + m ≤ maxLen) (hbytes : (n + m) * bytes ≤ 140737488355328)
    (h : ∀ g cap w', Own w0 w' e size (.slice (some ⟨g, 0, none⟩) (n + m) cap) (n + m) (xs ++ cs.toList) → wr.grownBy w' v.ownBlock → (v.ownBlock = some g ∨ g = wr.heap.size + 1) → wpList P ops Q rest (a.put o.dst (.slice (some ⟨g, 0, none⟩) (n + m) cap)) w') :
    wpList P ops Q (o :: rest) a (wr.alloc (.cells cs e)) := by
  subst hH
  obtain ⟨i0, hi, hz0, hz1, hz2⟩ := info_parts hi
  have ha := hown.alloc (.cells cs e)
  refine wpList_append_lies _ hgd s x t ho w0.heap.size e i0 z size bytes ht hi hz0 hz1 hz2 hzs hsz v n xs hs ha.own ⟨wr.heap.size, 0, none⟩ m m cs.toList hx (by simpa using hl) (news_new wr cs e) h1 hm h63 hbytes ha.below.size (wr.heap.size + 1) (by simp) ?_
  intro g cap w' hown' hg hat hlt
  have hal : Below wr.heap.size wr (wr.alloc (.cells cs e)) := (Below.refl _ _).alloc (Nat.le_refl _) _
  exact h g cap w' (ha.push hg hown') ⟨hg.os.trans hal.os, hg.tape.trans hal.tape, hg.output.trans hal.output, Nat.le_trans hal.size hg.size, fun q hq hne => (hg.block q (Nat.lt_of_lt_of_le hq hal.size) hne).trans (hal.block q hq)⟩ hat

end Go.Proofs.Ytjciafpihdbedaa
end
section
/- classes.names, classes.once; strings of the call's own. -/
namespace Go.Proofs.Ytjciafpihdbedaa
open Go.RowKit

theorem infoStr : (Try.prog.info? 9).map (fun i => (i.zero, i.size, i.bytes)) = some (some (.string ⟨#[]⟩), 1, 16) := by kernel_rfl
/-- One text more. -/
theorem push_str {ops : Array Oper} {rest : List Oper} {o : Oper} {a : Act} {Q : Exit → Act → World → Prop} (hgd : o.guard = none) (s x : Operand) (ho : o.op = .call { callee := .builtin .append, args := #[s, x], argTypes := #[30, 30] })
    {w0 wr : World} {v : Value} {l : List ByteArray} {y : ByteArray} (hs : a.eval s = v) (hown : Own w0 wr 9 1 v l.length (l.map Value.string)) {H : Nat} (hx : a.eval x = .slice (some ⟨H, 0, none⟩) 1 1) (hH : wr.heap.size = H) (hn : l.length ≤ 1000000000000)
    (h : ∀ g cap w', Own w0 w' 9 1 (.slice (some ⟨g, 0, none⟩) (l.length + 1) cap) (l ++ [y]).length ((l ++ [y]).map Value.string) → wr.grownBy w' v.ownBlock → (v.ownBlock = some g ∨ g = wr.heap.size + 1) → wpList Try.prog ops Q rest (a.put o.dst (.slice (some ⟨g, 0, none⟩) (l.length + 1) cap)) w') :
    wpList Try.prog ops Q (o :: rest) a (wr.alloc (.cells #[.string y] 9)) :=
  wpList_push 9 1 16 _ infoStr rfl (by decide) hgd s x _ ho Try.underlying30 hs hown hx hH (by simp) (by simp [Value.oneCell']) (by decide) (by unfold maxLen; omega) (by omega) (fun g cap w' h1 h2 h3 => h g cap w' (by rw [List.length_append, List.map_append]; exact h1) h2 h3)
/-- A slice of texts reads as a list. -/
def RStrs (w : World) (v : Value) (l : List ByteArray) : Prop :=
  ∃ a n cap, v = .slice a n cap ∧ l.length = n ∧ n ≤ 9223372036854775807 ∧ ∀ i x, l[i]? = some x → ∃ b off, a = some ⟨b, off, none⟩ ∧ b < w.heap.size ∧ w.cell? ⟨b, off + i, none⟩ = some (.string x)
theorem RStrs.below {w w' : World} {v : Value} {l : List ByteArray} (h : RStrs w v l) (hb : Below w.heap.size w w') : RStrs w' v l := by
  obtain ⟨a, n, cap, h1, h2, h3, h4⟩ := h
  refine ⟨a, n, cap, h1, h2, h3, fun i x hx => ?_⟩
  obtain ⟨b, off, ha, hlt, hc⟩ := h4 i x hx
  exact ⟨b, off, ha, Nat.lt_of_lt_of_le hlt hb.size, (hb.cell (p := ⟨b, off + i, none⟩) hlt).trans hc⟩
theorem RStrs.of_own {w : World} {base : Nat} {t : TypeId} {v : Value} {n : Nat} {l : List ByteArray} (h : w.ownsRow base t 1 v n (l.map Value.string)) : RStrs w v l := by
  obtain ⟨hl, h⟩ := h
  have hn : l.length = n := by simpa using hl
  rcases h with ⟨rfl, rfl⟩ | ⟨g, cap, cur, rfl, hb, hg, h1, h2, h3, h4⟩
  · exact ⟨none, 0, 0, rfl, hn, by omega, fun i x hx => by
      have : l = [] := List.eq_nil_of_length_eq_zero hn
      subst this; simp at hx⟩
  · refine ⟨some ⟨g, 0, none⟩, n, cap, rfl, hn, by unfold maxLen at h2; omega, fun i x hx => ⟨g, 0, rfl, (Array.getElem?_eq_some_iff.1 hg).1, ?_⟩⟩
    have hi : i < n := by rw [← hn]; exact (List.getElem?_eq_some_iff.1 hx).1
    have e : (cur.toList.take (n * 1))[i]? = some (.string x) := by rw [h4, List.getElem?_map, hx]; rfl
    rw [List.getElem?_take, if_pos (by omega), Array.getElem?_toList] at e
    simp [World.cell?, hg, e]

def namesL (l : List Slot) : List ByteArray := l.map (·.name)
theorem namesL_take {l : List Slot} {j : Nat} {x : Slot} (hx : l[j]? = some x) : namesL (l.take (j + 1)) = namesL (l.take j) ++ [x.name] := by
  unfold namesL; rw [List.take_add_one, hx]; simp
set_option maxHeartbeats 1000000 in
theorem names_any (v : Value) (l : List Slot) (w : World) (hv : RSlots w (· < w.heap.size) v l) (hl : l.length ≤ 1000000000000) :
    Calls Try.prog 47 #[v] w fun e w' => ∃ v', e = .returned v' ∧ Own w w' 9 1 v' (namesL l).length ((namesL l).map Value.string) := by
  obtain ⟨a, m, cap, rfl, hm, hcap, hmax, hel⟩ := hv
  have H := Lib.hid hel
  have HN := Lib.hid hm
  unfold maxC at hmax
  rw [hm] at hl
  clear hel hm
  go_enter Try.func47, Try.ntmps47
  go_wp2
  go_loopw [2, 7] (fun v2 v7 wr => ∃ j : Nat, j ≤ m ∧ v7 = .int .i64 j ∧ Hid (Own w wr 9 1 v2 (namesL (l.take j)).length ((namesL (l.take j)).map Value.string))) (fun _ v7 _ => m - (intOf v7).toNat)
  case atStart => exact ⟨0, by omega, rfl, Own.start _ _ _⟩
  case round =>
    obtain ⟨j, hj, rfl, HO⟩ := hrel
    by_cases hlt : j < m
    · obtain ⟨x, hx⟩ : ∃ x, l[j]? = some x := ⟨_, List.getElem?_eq_getElem (by rw [HN.out]; exact hlt)⟩
      obtain ⟨b, off, cs, rfl, hbl, hc, hr⟩ := H.out j _ hx
      have HT := Lib.hid (namesL_take hx)
      obtain ⟨rfl, -, -⟩ := hr
      have hc := cellsAt_of_block (HO.out.below.block b hbl) hc
      obtain ⟨c0, c1, -⟩ := hc
      have hlen : (namesL (l.take j)).length ≤ 1000000000000 := by
        unfold namesL
        rw [List.length_map]
        have h2 : (l.take j).length ≤ j := List.length_take_le _ _
        omega
      clear hx
      obtain ⟨a2, c2, rfl⟩ := HO.out.shape
      go_wp2_with (at_builtin; (refine push_str rfl _ _ rfl rfl (HO.out.alloc _) rfl (by simp) hlen ?_)
                   intro g c w4 hO4 hg4 hat4
                   have HO4 := Lib.hid hO4
                   clear hO4 hg4 hat4)
      exact ⟨⟨j + 1, by omega, by go_num, by rw [HT.out]; exact HO4⟩, by simp [intOf]; omega⟩
    · obtain rfl : m = j := by omega
      have HO2 : Hid (Own w wr 9 1 u2 (namesL l).length ((namesL l).map Value.string)) := by
        have h := HO.out
        rwa [List.take_of_length_le (by rw [HN.out]; exact Nat.le_refl _)] at h
      go_wp2
      go_ret
      exact ⟨_, rfl, HO2.out⟩
end Go.Proofs.Ytjciafpihdbedaa
end
section
/- classes.once: whether no name stands twice. A map[string]int of the call's own, as the set of its keys. -/
namespace Go.Proofs.Ytjciafpihdbedaa
open Go.RowKit

abbrev Bytes := List UInt8
theorem keyedStr : Maps.Keyed Try.prog 9 := Maps.string_keyed Try.underlying9
theorem zeroInt (w : World) : (zeroValue 3).run Try.prog w = .ok (.int .i64 0) w := by kernel_rfl
theorem isKey_str (s : Bytes) : WideAt.IsKeyLit (.string s) := by simp [WideAt.IsKeyLit]
theorem key_str {s : ByteArray} (h : s.size ≤ maxLen) : keyOf Try.prog 9 (.string s) = some (.string s.data.toList) := WideMaps.keyOf_string_mk Try.underlying9 h
/-- The first of each. -/
def firsts (l : List Bytes) : List Bytes := l.foldl (fun a x => if x ∈ a then a else a ++ [x]) []
theorem firsts_snoc (l : List Bytes) (x : Bytes) : firsts (l ++ [x]) = if x ∈ firsts l then firsts l else firsts l ++ [x] := by
  unfold firsts
  rw [List.foldl_append]
  rfl
theorem firsts_facts : ∀ l : List Bytes, (firsts l.reverse).Nodup ∧ (∀ x, x ∈ firsts l.reverse ↔ x ∈ l.reverse) ∧ (firsts l.reverse).length ≤ l.reverse.length ∧ ((firsts l.reverse).length = l.reverse.length ↔ l.reverse.Nodup)
  | [] => by simp [firsts]
  | x :: l => by
    obtain ⟨h1, h2, h3, h4⟩ := firsts_facts l
    rw [List.reverse_cons, firsts_snoc]
    by_cases hx : x ∈ firsts l.reverse
    · rw [if_pos hx]
      refine ⟨h1, fun y => ?_, by rw [List.length_append]; omega, ?_⟩
      · rw [h2, List.mem_append]
        constructor
        · exact .inl
        · rintro (h | h)
          · exact h
          · rw [List.mem_singleton.1 h]; exact (h2 x).1 hx
      · rw [List.length_append, List.nodup_append]
        constructor
        · intro h; simp at h; simp at h3; omega
        · rintro ⟨-, -, h⟩
          exact absurd rfl (h x ((h2 x).1 hx) x (by simp))
    · rw [if_neg hx]
      have hx2 : x ∉ l.reverse := fun h => hx ((h2 x).2 h)
      refine ⟨?_, fun y => by rw [List.mem_append, List.mem_append, h2], by rw [List.length_append, List.length_append]; omega, ?_⟩
      · rw [List.nodup_append]
        exact ⟨h1, by simp, fun a ha b hb => by rw [List.mem_singleton.1 hb]; rintro rfl; exact hx ha⟩
      · rw [List.length_append, List.length_append, List.nodup_append]
        constructor
        · intro h
          refine ⟨h4.1 (by simpa using h), by simp, fun a ha b hb => by rw [List.mem_singleton.1 hb]; rintro rfl; exact hx2 ha⟩
        · rintro ⟨h, -, -⟩
          have := h4.2 h
          omega
theorem firsts_all (l : List Bytes) : (firsts l).Nodup ∧ (∀ x, x ∈ firsts l ↔ x ∈ l) ∧ (firsts l).length ≤ l.length ∧ ((firsts l).length = l.length ↔ l.Nodup) := by
  have h := firsts_facts l.reverse
  rwa [List.reverse_reverse] at h

/-- Block b holds a map[string]int whose keys are those of l. -/
structure MK (w : World) (b n : Nat) (l : List Bytes) : Prop where
  own : ∃ D : DataW Unit, w.ownsMap Try.prog 9 (plainElem Try.prog 3) b n D ∧ (∀ s, Maps.has D (.string s) = decide (s ∈ l)) ∧ Maps.size D = (firsts l).length
theorem MK.lt {w : World} {b n : Nat} {l : List Bytes} (h : MK w b n l) : b < w.heap.size := by obtain ⟨D, h, _⟩ := h.own; exact h.lt
theorem MK.made (w : World) : MK (w.alloc (.map #[] 0)) w.heap.size 0 [] :=
  ⟨.map [], World.ownsMap_made _ _ _ _, fun _ => rfl, rfl⟩
theorem MK.look {w : World} {b n : Nat} {l : List Bytes} (h : MK w b n l) {s : ByteArray} (hs : s.size ≤ maxLen) : ∃ c, (Instr.lookup 77 (.map (some b)) (.string s) false).run Try.prog w = .ok (.int .i64 c) w := by
  obtain ⟨D, h, -⟩ := h.own
  obtain ⟨c, hrun, -, -⟩ := h.lookup_int keyedStr Try.underlying77 Try.underlying3 (zeroInt w) (key_str hs)
  exact ⟨c, hrun⟩
theorem MK.put {w : World} {b n : Nat} {l : List Bytes} (h : MK w b n l) (hn : n < maxLen) {s : ByteArray} (hs : s.size ≤ maxLen) {c : Int} (hc : (Lit.int .i64 c).wf = true) :
    ∃ w', (Instr.mapUpdate 77 (.map (some b)) (.string s) (.int .i64 c)).run Try.prog w = .ok () w' ∧ MK w' b (n + 1) (l ++ [s.data.toList]) ∧ w.grownBy w' (some b) := by
  obtain ⟨D, h, hh, hsz⟩ := h.own
  have ht := h.tidy keyedStr
  obtain ⟨w', hrun, h1, h2⟩ := h.update keyedStr Try.underlying77 hn (key_str hs) (plainElem_int Try.underlying3 hc)
  refine ⟨w', hrun, ⟨_, h1, fun q => ?_, ?_⟩, h2⟩
  · by_cases e : q = s.data.toList
    · subst e; rw [Maps.has_put_same h.isMap (isKey_str _)]; simp
    · have hne : Lit.string q ≠ Lit.string s.data.toList := fun hq => e (by injection hq)
      rw [Maps.has_put_other hne, hh q]
      simp [e]
  · rw [Maps.size_put ht, hh, hsz, firsts_snoc]
    have hm := (firsts_all l).2.1 s.data.toList
    by_cases hx : s.data.toList ∈ l
    · rw [if_pos (hm.2 hx)]; simp [hx]
    · rw [if_neg (fun k => hx (hm.1 k))]; simp [hx]
theorem MK.len {w : World} {b n : Nat} {l : List Bytes} (h : MK w b n l) (ty : TypeId) : (Builtin.len_ #[77] ty #[.map (some b)]).run Try.prog w = .ok (.int .i64 ((firsts l).length : Nat)) w := by
  obtain ⟨D, h, -, hsz⟩ := h.own
  rw [h.len Try.underlying77 ty, hsz]

def onceB (l : List ByteArray) : Bool := decide ((l.map fun s => s.data.toList).Nodup)
set_option maxHeartbeats 1000000 in
theorem once_any (v : Value) (l : List ByteArray) (w : World) (hv : RStrs w v l) (hl : l.length ≤ 1000000000000) (hsz : ∀ s ∈ l, s.size ≤ maxLen) :
    Calls Try.prog 23 #[v] w fun e w' => e = .returned (.bool (onceB l)) ∧ Below w.heap.size w w' := by
  obtain ⟨a, m, cap, rfl, hm, hmax, hel⟩ := hv
  have H := Lib.hid hel
  have HN := Lib.hid hm
  have HS := Lib.hid hsz
  rw [hm] at hl
  clear hel hm hsz
  have hmm := @run_makeMap Try.prog
  have M0 : Hid (MK (w.alloc (.map #[] 0)) w.heap.size 0 ((l.take 0).map fun s => s.data.toList)) := MK.made w
  go_enter Try.func23, Try.ntmps23
  go_wp2
  clear hmm
  go_loopw [9] (fun v9 wr => ∃ j : Nat, j ≤ m ∧ v9 = .int .i64 j ∧ Hid (MK wr w.heap.size j ((l.take j).map fun s => s.data.toList)) ∧ Hid (Below w.heap.size w wr)) (fun v9 _ => m - (intOf v9).toNat)
  case atStart => exact ⟨0, by omega, rfl, M0, (Below.refl _ _).alloc (Nat.le_refl _) _⟩
  case round =>
    clear M0
    obtain ⟨j, hj, rfl, HM, HB⟩ := hrel
    by_cases hlt : j < m
    · obtain ⟨x, hx⟩ : ∃ x, l[j]? = some x := ⟨_, List.getElem?_eq_getElem (by rw [HN.out]; exact hlt)⟩
      obtain ⟨b, off, rfl, hbl, hc⟩ := H.out j _ hx
      have d0 := (HB.out.cell (p := ⟨b, off + j, none⟩) hbl).trans hc
      have hxs := HS.out x (List.mem_of_getElem? hx)
      obtain ⟨c, hlook⟩ := HM.out.look hxs
      obtain ⟨w3, hput, hm3, hg3⟩ := HM.out.put (by unfold maxLen; omega) hxs (c := wrap64 (c + 1)) (RowKit.wrap64_wf _)
      have HM3 : Hid (MK w3 w.heap.size (j + 1) ((l.take (j + 1)).map fun s => s.data.toList)) := by
        show MK w3 w.heap.size (j + 1) ((l.take (j + 1)).map fun s => s.data.toList)
        rw [List.take_add_one, hx]
        simpa using hm3
      have HB3 : Hid (Below w.heap.size w w3) := HB.out.grown hg3 HB.out.size (fun q hq => by cases hq; exact Nat.le_refl _)
      clear hx hc hbl hm3 hg3 hxs
      go_wp2
      exact ⟨⟨j + 1, by omega, by go_num, HM3, HB3⟩, by simp [intOf]; omega⟩
    · obtain rfl : m = j := by omega
      have hlen := HM.out.len 3
      rw [List.take_of_length_le (by rw [HN.out]; exact Nat.le_refl _)] at hlen
      have hf := firsts_all (l.map fun s => s.data.toList)
      rw [List.length_map, HN.out] at hf
      have HF : Hid (onceB l = decide ((firsts (l.map fun s => s.data.toList)).length = m)) := by
        show onceB l = _
        unfold onceB
        exact decide_eq_decide.2 hf.2.2.2.symm
      generalize hq : (firsts (l.map fun s => s.data.toList)).length = q at *
      clear hf hq
      go_wp2
      go_ret
      refine ⟨?_, HB.out⟩
      rw [HF.out]
      exact ret_bool (by rw [Bool.eq_iff_iff]; simp; omega)
end Go.Proofs.Ytjciafpihdbedaa
end
section
/- classes.alike: whether two methods may stand for one another. -/
namespace Go.Proofs.Ytjciafpihdbedaa
open Go.RowKit

def typesOf (l : List Slot) : List Bytes := l.map fun s => s.type.toList
theorem typesOf_at {l : List Slot} {k : Nat} {x : Slot} (h : l[k]? = some x) : (typesOf l)[k]? = some x.type.toList := by simp [typesOf, h]
theorem typesOf_len (l : List Slot) : (typesOf l).length = l.length := by simp [typesOf]
theorem sameType (x y : Slot) (w : World) : Calls Try.prog 75 #[.agg #[.string x.type, .string x.name], .agg #[.string y.type, .string y.name]] w fun e w' => e = .returned (.bool (x.type.toList == y.type.toList)) ∧ Below w.heap.size w w' := by
  go_enter Try.func75, Try.ntmps75
  go_wp2
  go_ret
  exact ⟨rfl, by go_grown⟩
set_option maxHeartbeats 1000000 in
theorem equalTypes (u v : Value) (l m : List Slot) (w : World) (hu : RSlots w (· < w.heap.size) u l) (hv : RSlots w (· < w.heap.size) v m) :
    Calls Try.prog 74 #[u, v, .func (.func 75) #[] #[]] w fun e w' => e = .returned (.bool (decide (typesOf l = typesOf m))) ∧ Below w.heap.size w w' := by
  obtain ⟨a, n, cap, rfl, hn, hcap, hmax, hel⟩ := hu
  obtain ⟨a', n', cap', rfl, hn', hcap', hmax', hel'⟩ := hv
  unfold maxC at hmax hmax'
  have H := Lib.hid hel
  have H' := Lib.hid hel'
  have HN := Lib.hid hn
  have HN' := Lib.hid hn'
  clear hel hel' hn hn'
  by_cases hnn : n = n'
  · subst hnn
    go_enter Try.func74, Try.ntmps74
    go_wp2
    go_loopw [17] (fun v17 wr => ∃ k : Nat, k ≤ n ∧ v17 = .int .i64 k ∧ Hid ((typesOf l).take k = (typesOf m).take k) ∧ Hid (Below w.heap.size w wr)) (fun v17 _ => n - (intOf v17).toNat)
    case atStart => exact ⟨0, by omega, rfl, rfl, Below.refl _ _⟩
    case round =>
      obtain ⟨k, hk, rfl, HQ, HB⟩ := hrel
      by_cases hlt : k < n
      · obtain ⟨x, hx⟩ : ∃ x, l[k]? = some x := ⟨_, List.getElem?_eq_getElem (by rw [HN.out]; exact hlt)⟩
        obtain ⟨y, hy⟩ : ∃ y, m[k]? = some y := ⟨_, List.getElem?_eq_getElem (by rw [HN'.out]; exact hlt)⟩
        have HX := Lib.hid (typesOf_at hx)
        have HY := Lib.hid (typesOf_at hy)
        obtain ⟨b, off, cs, rfl, hb, hc, hr⟩ := H.out k _ hx
        obtain ⟨b', off', cs', rfl, hb', hc', hr'⟩ := H'.out k _ hy
        obtain ⟨rfl, -, -⟩ := hr
        obtain ⟨rfl, -, -⟩ := hr'
        have hc := cellsAt_of_block (HB.out.block b hb) hc
        have hc' := cellsAt_of_block (HB.out.block b' hb') hc'
        obtain ⟨c0, c1, -⟩ := hc
        obtain ⟨c2, c3, -⟩ := hc'
        have hbl : b < wr.heap.size := Nat.lt_of_lt_of_le hb HB.out.size
        have hbl' : b' < wr.heap.size := Nat.lt_of_lt_of_le hb' HB.out.size
        have hkn : (k : Int) < (n : Int) := by omega
        have HBA : Hid (∀ o1 o2, Below w.heap.size w ((wr.alloc o1).alloc o2)) := fun o1 o2 => by
          have b1 := HB.out.alloc HB.out.size o1
          exact b1.alloc b1.size o2
        clear hx hy hb hb'
        go_wp2_with fail
        refine (sameType x y _).mono ?_
        rintro e w2 ⟨rfl, hb2⟩
        have HB2 : Hid (Below w.heap.size w w2) := afterCall (HBA.out _ _) hb2
        clear hb2
        by_cases hxy : x.type.toList = y.type.toList
        · have hq : (x.type.toList == y.type.toList) = true := by simpa using hxy
          have HQ2 : Hid ((typesOf l).take (k + 1) = (typesOf m).take (k + 1)) := by
            show _ = _
            rw [List.take_add_one, List.take_add_one, HX.out, HY.out, HQ.out, hxy]
          rw [hq]
          clear hq hxy
          go_wp2
          exact ⟨⟨k + 1, by omega, by go_num, HQ2, HB2⟩, by simp [intOf]; omega⟩
        · have hq : (x.type.toList == y.type.toList) = false := by simpa using hxy
          have HD : Hid (decide (typesOf l = typesOf m) = false) := by
            show decide (typesOf l = typesOf m) = false
            rw [decide_eq_false_iff_not]
            intro e
            have := HX.out
            rw [e, HY.out] at this
            exact hxy (Option.some.inj this).symm
          rw [hq]
          clear hq hxy
          go_wp2
          go_ret
          exact ⟨by rw [HD.out]; rfl, HB2.out⟩
      · obtain rfl : k = n := by omega
        have HD : Hid (decide (typesOf l = typesOf m) = true) := by
          show decide (typesOf l = typesOf m) = true
          rw [decide_eq_true_iff]
          have h := HQ.out
          rw [List.take_of_length_le (by rw [typesOf_len, HN.out]; exact Nat.le_refl _), List.take_of_length_le (by rw [typesOf_len, HN'.out]; exact Nat.le_refl _)] at h
          exact h
        go_wp2
        go_ret
        exact ⟨by rw [HD.out]; rfl, HB.out⟩
  · have HD : Hid (decide (typesOf l = typesOf m) = false) := by
      show decide (typesOf l = typesOf m) = false
      rw [decide_eq_false_iff_not]
      intro e
      have := congrArg List.length e
      rw [typesOf_len, typesOf_len] at this
      exact hnn (HN.out.symm.trans (this.trans HN'.out))
    go_enter Try.func74, Try.ntmps74
    go_wp2
    all_goals go_ret
    all_goals exact ⟨by rw [HD.out]; rfl, Below.refl _ _⟩
def alikeB (x y : Method) : Bool := (x.type.toList == y.type.toList) && decide (typesOf x.params = typesOf y.params)
theorem alike_any (x y : Method) (cx cy : List Value) (d : Nat) (w : World) (hx : RMethod d w (· < w.heap.size) cx x) (hy : RMethod d w (· < w.heap.size) cy y) :
    Calls Try.prog 50 #[.agg cx.toArray, .agg cy.toArray] w fun e w' => e = .returned (.bool (alikeB x y)) ∧ Below w.heap.size w w' := by
  obtain ⟨pv, bv, rfl, -, -, hp, -⟩ := hx
  obtain ⟨pv', bv', rfl, -, -, hp', -⟩ := hy
  have HP := Lib.hid hp
  have HP' := Lib.hid hp'
  obtain ⟨a, n, c, rfl⟩ := RSl.shape hp
  obtain ⟨a', n', c', rfl⟩ := RSl.shape hp'
  clear hp hp'
  by_cases ht : x.type.toList = y.type.toList
  · have h1 : (x.type.toList == y.type.toList) = true := by simpa using ht
    have HA : Hid (alikeB x y = decide (typesOf x.params = typesOf y.params)) := by show alikeB x y = _; unfold alikeB; rw [h1, Bool.true_and]
    clear ht
    go_enter Try.func50, Try.ntmps50
    go_wp2_with fail
    refine (equalTypes _ _ x.params y.params _ (HP.out.mono (fun b hb => by simp; omega) (fun b hb => ?_)) (HP'.out.mono (fun b hb => by simp; omega) (fun b hb => ?_))).mono ?_
    · exact (((Below.refl w.heap.size w).alloc (Nat.le_refl _) _).alloc (by simp) _).block b hb
    · exact (((Below.refl w.heap.size w).alloc (Nat.le_refl _) _).alloc (by simp) _).block b hb
    rintro e w2 ⟨rfl, hb⟩
    have HB : Hid (Below w.heap.size w w2) := afterCall (by go_grown) hb
    clear hb
    go_wp2
    go_ret
    exact ⟨by rw [HA.out]; rfl, HB.out⟩
  · have h1 : (x.type.toList == y.type.toList) = false := by simpa using ht
    have HA : Hid (alikeB x y = false) := by show alikeB x y = _; unfold alikeB; rw [h1, Bool.false_and]
    clear ht
    go_enter Try.func50, Try.ntmps50
    go_wp2
    go_ret
    exact ⟨by rw [HA.out]; rfl, by go_grown⟩
end Go.Proofs.Ytjciafpihdbedaa
end
section
/- classes: what is asked of lists by closures; names; once; alike. -/
set_option linter.unusedVariables false
set_option linter.unusedSimpArgs false
namespace Go.Proofs.Ytjciafpihdbedaa
namespace V
open Go.RowKit
set_option linter.unusedSimpArgs false
theorem cvs_caps {m : Mem} : ∀ caps : List (List C), Cvs m (caps.map A.rptr) (caps.map A.rptr)
  | [] => trivial
  | _ :: l => ⟨cv_refl, cvs_caps l⟩
theorem idxB_none {α : Type} {p : α → Bool} {l : List α} (h : l.any p = false) : idxB p l = -1 := by
  induction l with
  | nil => rfl
  | cons x l ih =>
    simp only [List.any_cons, Bool.or_eq_false_iff] at h
    unfold idxB
    rw [if_neg (by simp [h.1]), ih h.2]; simp
theorem idxB_at {α : Type} {p : α → Bool} {l : List α} {k : Nat} {x : α} (h : (l.take k).any p = false) (hx : l[k]? = some x) (hp : p x = true) : idxB p l = k := by
  induction l generalizing k with
  | nil => simp at hx
  | cons y l ih =>
    unfold idxB
    cases k with
    | zero => simp at hx; subst hx; simp [hp]
    | succ k =>
      simp only [List.take_succ_cons, List.any_cons, Bool.or_eq_false_iff] at h
      rw [if_neg (by simp [h.1]), ih h.2 (by simpa using hx)]
      rw [if_neg (by omega)]; simp
theorem idxB_any {α : Type} (p : α → Bool) (l : List α) : decide ((0 : Int) ≤ idxB p l) = l.any p := by
  cases h : l.any p with
  | false => rw [idxB_none h]; rfl
  | true =>
    obtain ⟨x, hx, hp⟩ := List.any_eq_true.1 h
    have hge := idxB_ge p l
    by_cases h1 : idxB p l = -1
    · exfalso
      have : ∀ l : List α, x ∈ l → idxB p l ≠ -1 := by
        intro l
        induction l with
        | nil => intro h; simp at h
        | cons y l ih =>
          intro h
          unfold idxB
          by_cases hy : p y = true
          · rw [if_pos hy]; decide
          · rw [if_neg hy]
            rcases List.mem_cons.1 h with rfl | h
            · exact absurd hp hy
            · have := ih h
              have h3 := idxB_ge p l
              rw [if_neg this]; omega
      exact this l hx h1
    · simp; omega
theorem idxClass_ok (l : List Class) (f : FuncId) (caps : List (List C)) (p : Class → Bool) (hlen : l.length ≤ 1000000000000) (hk : ∀ x ∈ l, ∀ m, COk Try.prog f (.agg (cClass x) :: caps.map A.rptr) m (.c (.bool (p x)))) (m : Mem) : COk Try.prog 45 [.c (.sl (l.map cClass)), .fnR f caps] m (.c (.int .i64 (idxB p l))) := by
  refine (ok_pure tab_ok Try.func45 (by kernel_rfl) rfl rfl (by rfl) (by rfl) (by rfl) (fun R hkeep => ?_) m)
  repeat (first | refine W.seq ?_ | refine W.block ?_ | refine W.skip ?_ | refine W.exit ?_ | refine W.region tab_ok 0 (by decide) (exec_run (by simp only [exec, stepQ, wantA, yieldA, kind, qv, qv1, qv2, stO, adrId, dataC, replC, eqNil, binNil, shiftInt, A.down, A1.up, downs, toR, ev, putS, rowO, ofConst, cellsA, cellsC, asC, asCs, ld, ldR, bin, binInt, binStr, binBool, sliceOf, bndOf, repl, fillC, zeroC, chunks, ptrIds, tabs, upd_app, mem_nil_app, entry_zero, entry_succ, entry_nil, top_app, maxStr, ByteArray.size, A.kill, O.kill, killS_app, killM_app, Nat.reduceAdd, Nat.reduceLeDiff, Nat.reduceEqDiff, Nat.reduceMul, Int.reduceToNat, reduceIte, wf_i64, Int.reduceLE, Int.reduceNeg, beq_self_eq_true, decide_true, decide_false, ybeq_some, ybeq_none, beqT, beqF, empty_toList, exs]; rfl)) ?_)
  refine W.loop (ι := Nat) (fun k => ⟨upd (upd (upd (upd (upd (fun _ => .top) 0 (.c (.sl (l.map cClass)))) 1 (.fnR f caps)) 4 (.c (.int .i64 0))) 7 (.c (.int .i64 l.length))) 8 (.c (.int .i64 k)), Mem.nil⟩) (fun k => k ≤ l.length ∧ (l.take k).any p = false) (fun k => l.length - k) 0 ?start ⟨Nat.zero_le _, rfl⟩ ?round
  case start =>
    refine le_mk ?sle ?mle ?swf ?mwf ?kept (by rfl)
    case kept => exact kept_not hkeep
    case swf => repeat (first | exact swf_top _ | refine swf_upd ?_ (by simp [A.ids, upd_app]))
    case mwf => repeat (first | exact mwf_nil _ | refine mwf_upd ?_ (by simp [A.ids, O.ids, upd_app]))
    case mle => repeat (first | exact mle_nil _ | exact mle_refl _ | refine mle_upd ?_ (by first | rfl | (simp only [upd_app, killM_app, Nat.reduceEqDiff, reduceIte]; done)))
    case sle => repeat (first | exact sle_top _ | exact sle_refl _ | refine sle_upd ?_ (by first | rfl | (simp only [upd_app, entry_zero, entry_succ, Nat.reduceEqDiff, reduceIte]; done)))
  case round =>
    rintro k ⟨hkl, hno⟩
    repeat (first | refine W.seq ?_ | refine W.block ?_ | refine W.skip ?_ | refine W.exit ?_ | refine W.region tab_ok 0 (by decide) (exec_run (by simp only [exec, stepQ, wantA, yieldA, kind, qv, qv1, qv2, stO, adrId, dataC, replC, eqNil, binNil, shiftInt, A.down, A1.up, downs, toR, ev, putS, rowO, ofConst, cellsA, cellsC, asC, asCs, ld, ldR, bin, binInt, binStr, binBool, sliceOf, bndOf, repl, fillC, zeroC, chunks, ptrIds, tabs, upd_app, mem_nil_app, entry_zero, entry_succ, entry_nil, top_app, maxStr, ByteArray.size, A.kill, O.kill, killS_app, killM_app, Nat.reduceAdd, Nat.reduceLeDiff, Nat.reduceEqDiff, Nat.reduceMul, Int.reduceToNat, reduceIte, wf_i64, Int.reduceLE, Int.reduceNeg, beq_self_eq_true, decide_true, decide_false, ybeq_some, ybeq_none, beqT, beqF, empty_toList, exs]; rfl)) ?_)
    refine W.cond rfl ?_ ?_
    · intro hlt
      simp only [decide_eq_true_eq, Int.ofNat_lt] at hlt
      obtain ⟨x, hx⟩ : ∃ x, l[k]? = some x := ⟨_, List.getElem?_eq_getElem hlt⟩
      repeat (first | refine W.seq ?_ | refine W.block ?_ | refine W.skip ?_ | refine W.exit ?_ | refine W.region tab_ok 0 (by decide) (exec_run (by simp only [exec, stepQ, wantA, yieldA, kind, qv, qv1, qv2, stO, adrId, dataC, replC, eqNil, binNil, shiftInt, A.down, A1.up, downs, toR, ev, putS, rowO, ofConst, cellsA, cellsC, asC, asCs, ld, ldR, bin, binInt, binStr, binBool, sliceOf, bndOf, repl, fillC, zeroC, chunks, ptrIds, tabs, upd_app, mem_nil_app, entry_zero, entry_succ, entry_nil, top_app, maxStr, ByteArray.size, A.kill, O.kill, killS_app, killM_app, Nat.reduceAdd, Nat.reduceLeDiff, Nat.reduceEqDiff, Nat.reduceMul, Int.reduceToNat, reduceIte, wf_i64, Int.reduceLE, Int.reduceNeg, beq_self_eq_true, decide_true, decide_false, ybeq_some, ybeq_none, beqT, beqF, empty_toList, exs]; rfl)) ?_)
      refine W.regionK tab_ok 0 (by decide) ?_
      refine runk_split 5 (by simp only [exec, stepQ, wantA, yieldA, kind, qv, qv1, qv2, stO, adrId, dataC, replC, eqNil, binNil, shiftInt, A.down, A1.up, downs, toR, ev, putS, rowO, ofConst, cellsA, cellsC, asC, asCs, ld, ldR, bin, binInt, binStr, binBool, sliceOf, bndOf, repl, fillC, zeroC, chunks, ptrIds, tabs, upd_app, mem_nil_app, entry_zero, entry_succ, entry_nil, top_app, maxStr, ByteArray.size, A.kill, O.kill, killS_app, killM_app, Nat.reduceAdd, Nat.reduceLeDiff, Nat.reduceEqDiff, Nat.reduceMul, Int.reduceToNat, reduceIte, wf_i64, Int.reduceLE, Int.reduceNeg, beq_self_eq_true, decide_true, decide_false, ybeq_some, ybeq_none, beqT, beqF, empty_toList, exs, at_map hx, cClass]; rfl) ?_
      refine runk_callF rfl rfl rfl rfl rfl (cvs_cons cv_refl (cvs_caps _)) (hk x (List.mem_of_getElem? hx) _) ?_
      refine runk_exec (by simp only [exec, stepQ, wantA, yieldA, kind, qv, qv1, qv2, stO, adrId, dataC, replC, eqNil, binNil, shiftInt, A.down, A1.up, downs, toR, ev, putS, rowO, ofConst, cellsA, cellsC, asC, asCs, ld, ldR, bin, binInt, binStr, binBool, sliceOf, bndOf, repl, fillC, zeroC, chunks, ptrIds, tabs, upd_app, mem_nil_app, entry_zero, entry_succ, entry_nil, top_app, maxStr, ByteArray.size, A.kill, O.kill, killS_app, killM_app, Nat.reduceAdd, Nat.reduceLeDiff, Nat.reduceEqDiff, Nat.reduceMul, Int.reduceToNat, reduceIte, wf_i64, Int.reduceLE, Int.reduceNeg, beq_self_eq_true, decide_true, decide_false, ybeq_some, ybeq_none, beqT, beqF, empty_toList, exs]; rfl) ?_
      refine W.cond rfl ?_ ?_
      · intro hp
        repeat (first | refine W.seq ?_ | refine W.block ?_ | refine W.skip ?_ | refine W.exit ?_ | refine W.region tab_ok 0 (by decide) (exec_run (by simp only [exec, stepQ, wantA, yieldA, kind, qv, qv1, qv2, stO, adrId, dataC, replC, eqNil, binNil, shiftInt, A.down, A1.up, downs, toR, ev, putS, rowO, ofConst, cellsA, cellsC, asC, asCs, ld, ldR, bin, binInt, binStr, binBool, sliceOf, bndOf, repl, fillC, zeroC, chunks, ptrIds, tabs, upd_app, mem_nil_app, entry_zero, entry_succ, entry_nil, top_app, maxStr, ByteArray.size, A.kill, O.kill, killS_app, killM_app, Nat.reduceAdd, Nat.reduceLeDiff, Nat.reduceEqDiff, Nat.reduceMul, Int.reduceToNat, reduceIte, wf_i64, Int.reduceLE, Int.reduceNeg, beq_self_eq_true, decide_true, decide_false, ybeq_some, ybeq_none, beqT, beqF, empty_toList, exs]; rfl)) ?_)
        refine W.ret ⟨.inr rfl, by rfl, ?_⟩
        simp only [Try.f45, resA, resOne, toT, fin, exec, stepQ, wantA, yieldA, kind, qv, qv1, qv2, stO, adrId, dataC, replC, eqNil, binNil, shiftInt, A.down, A1.up, downs, toR, ev, putS, rowO, ofConst, cellsA, cellsC, asC, asCs, ld, ldR, bin, binInt, binStr, binBool, sliceOf, bndOf, repl, fillC, zeroC, chunks, ptrIds, tabs, upd_app, mem_nil_app, entry_zero, entry_succ, entry_nil, top_app, maxStr, ByteArray.size, A.kill, O.kill, killS_app, killM_app, Nat.reduceAdd, Nat.reduceLeDiff, Nat.reduceEqDiff, Nat.reduceMul, Int.reduceToNat, reduceIte, wf_i64, Int.reduceLE, Int.reduceNeg, beq_self_eq_true, decide_true, decide_false, ybeq_some, ybeq_none, beqT, beqF, empty_toList, exs]
        rw [idxB_at hno hx hp]
      · intro hp
        repeat (first | refine W.seq ?_ | refine W.block ?_ | refine W.skip ?_ | refine W.exit ?_ | refine W.region tab_ok 0 (by decide) (exec_run (by simp only [exec, stepQ, wantA, yieldA, kind, qv, qv1, qv2, stO, adrId, dataC, replC, eqNil, binNil, shiftInt, A.down, A1.up, downs, toR, ev, putS, rowO, ofConst, cellsA, cellsC, asC, asCs, ld, ldR, bin, binInt, binStr, binBool, sliceOf, bndOf, repl, fillC, zeroC, chunks, ptrIds, tabs, upd_app, mem_nil_app, entry_zero, entry_succ, entry_nil, top_app, maxStr, ByteArray.size, A.kill, O.kill, killS_app, killM_app, Nat.reduceAdd, Nat.reduceLeDiff, Nat.reduceEqDiff, Nat.reduceMul, Int.reduceToNat, reduceIte, wf_i64, Int.reduceLE, Int.reduceNeg, beq_self_eq_true, decide_true, decide_false, ybeq_some, ybeq_none, beqT, beqF, empty_toList, exs]; rfl)) ?_)
        refine ⟨k + 1, ⟨hlt, ?_⟩, by omega, ?_⟩
        · rw [List.take_add_one, hx, List.any_append, hno]; simp [hp]
        refine le_mk ?sle ?mle ?swf ?mwf ?kept (by rfl)
        case kept => exact kept_not hkeep
        case swf => repeat (first | exact swf_top _ | refine swf_upd ?_ (by simp [A.ids, upd_app]))
        case mwf => repeat (first | exact mwf_nil _ | refine mwf_upd ?_ (by simp [A.ids, O.ids, upd_app]))
        case mle => repeat (first | exact mle_nil _ | exact mle_refl _ | refine mle_upd ?_ (by first | rfl | (simp only [upd_app, killM_app, Nat.reduceEqDiff, reduceIte, wrap_succ (show k + 1 < 9223372036854775808 by omega)]; done)))
        case sle => repeat (first | exact sle_top _ | exact sle_refl _ | refine sle_upd ?_ (by first | rfl | (simp only [upd_app, entry_zero, entry_succ, Nat.reduceEqDiff, reduceIte, wrap_succ (show k + 1 < 9223372036854775808 by omega)]; done)))
    · intro hge
      simp only [decide_eq_false_iff_not, Int.ofNat_lt] at hge
      obtain rfl : k = l.length := by omega
      rw [List.take_length] at hno
      repeat (first | refine W.seq ?_ | refine W.block ?_ | refine W.skip ?_ | refine W.exit ?_ | refine W.region tab_ok 0 (by decide) (exec_run (by simp only [exec, stepQ, wantA, yieldA, kind, qv, qv1, qv2, stO, adrId, dataC, replC, eqNil, binNil, shiftInt, A.down, A1.up, downs, toR, ev, putS, rowO, ofConst, cellsA, cellsC, asC, asCs, ld, ldR, bin, binInt, binStr, binBool, sliceOf, bndOf, repl, fillC, zeroC, chunks, ptrIds, tabs, upd_app, mem_nil_app, entry_zero, entry_succ, entry_nil, top_app, maxStr, ByteArray.size, A.kill, O.kill, killS_app, killM_app, Nat.reduceAdd, Nat.reduceLeDiff, Nat.reduceEqDiff, Nat.reduceMul, Int.reduceToNat, reduceIte, wf_i64, Int.reduceLE, Int.reduceNeg, beq_self_eq_true, decide_true, decide_false, ybeq_some, ybeq_none, beqT, beqF, empty_toList, exs]; rfl)) ?_)
      refine W.ret ⟨.inr rfl, by rfl, ?_⟩
      simp only [Try.f45, resA, resOne, toT, fin, exec, stepQ, wantA, yieldA, kind, qv, qv1, qv2, stO, adrId, dataC, replC, eqNil, binNil, shiftInt, A.down, A1.up, downs, toR, ev, putS, rowO, ofConst, cellsA, cellsC, asC, asCs, ld, ldR, bin, binInt, binStr, binBool, sliceOf, bndOf, repl, fillC, zeroC, chunks, ptrIds, tabs, upd_app, mem_nil_app, entry_zero, entry_succ, entry_nil, top_app, maxStr, ByteArray.size, A.kill, O.kill, killS_app, killM_app, Nat.reduceAdd, Nat.reduceLeDiff, Nat.reduceEqDiff, Nat.reduceMul, Int.reduceToNat, reduceIte, wf_i64, Int.reduceLE, Int.reduceNeg, beq_self_eq_true, decide_true, decide_false, ybeq_some, ybeq_none, beqT, beqF, empty_toList, exs]
      rw [idxB_none hno]
theorem anyClass_ok (l : List Class) (f : FuncId) (caps : List (List C)) (p : Class → Bool) (hlen : l.length ≤ 1000000000000) (hk : ∀ x ∈ l, ∀ m, COk Try.prog f (.agg (cClass x) :: caps.map A.rptr) m (.c (.bool (p x)))) (m : Mem) : COk Try.prog 24 [.c (.sl (l.map cClass)), .fnR f caps] m (.c (.bool (l.any p))) := by
  refine (ok_pure tab_ok Try.func24 (by kernel_rfl) rfl rfl (by rfl) (by rfl) (by rfl) (fun R hkeep => ?_) m)
  repeat (first | refine W.seq ?_ | refine W.block ?_ | refine W.skip ?_ | refine W.exit ?_ | refine W.region tab_ok 0 (by decide) (exec_run (by simp only [exec, stepQ, wantA, yieldA, kind, qv, qv1, qv2, stO, adrId, dataC, replC, eqNil, binNil, shiftInt, A.down, A1.up, downs, toR, ev, putS, rowO, ofConst, cellsA, cellsC, asC, asCs, ld, ldR, bin, binInt, binStr, binBool, sliceOf, bndOf, repl, fillC, zeroC, chunks, ptrIds, tabs, upd_app, mem_nil_app, entry_zero, entry_succ, entry_nil, top_app, maxStr, ByteArray.size, A.kill, O.kill, killS_app, killM_app, Nat.reduceAdd, Nat.reduceLeDiff, Nat.reduceEqDiff, Nat.reduceMul, Int.reduceToNat, reduceIte, wf_i64, Int.reduceLE, Int.reduceNeg, beq_self_eq_true, decide_true, decide_false, ybeq_some, ybeq_none, beqT, beqF, empty_toList, exs]; rfl)) ?_)
  refine W.regionK tab_ok 0 (by decide) ?_
  refine runk_split 2 (by simp only [exec, stepQ, wantA, yieldA, kind, qv, qv1, qv2, stO, adrId, dataC, replC, eqNil, binNil, shiftInt, A.down, A1.up, downs, toR, ev, putS, rowO, ofConst, cellsA, cellsC, asC, asCs, ld, ldR, bin, binInt, binStr, binBool, sliceOf, bndOf, repl, fillC, zeroC, chunks, ptrIds, tabs, upd_app, mem_nil_app, entry_zero, entry_succ, entry_nil, top_app, maxStr, ByteArray.size, A.kill, O.kill, killS_app, killM_app, Nat.reduceAdd, Nat.reduceLeDiff, Nat.reduceEqDiff, Nat.reduceMul, Int.reduceToNat, reduceIte, wf_i64, Int.reduceLE, Int.reduceNeg, beq_self_eq_true, decide_true, decide_false, ybeq_some, ybeq_none, beqT, beqF, empty_toList, exs]; rfl) ?_
  refine runk_call rfl rfl rfl rfl rfl (by simp) (cvs_cons cv_refl (cvs_cons cv_refl cvs_nil)) (idxClass_ok l f caps p hlen hk _) ?_
  refine runk_exec (by simp only [exec, stepQ, wantA, yieldA, kind, qv, qv1, qv2, stO, adrId, dataC, replC, eqNil, binNil, shiftInt, A.down, A1.up, downs, toR, ev, putS, rowO, ofConst, cellsA, cellsC, asC, asCs, ld, ldR, bin, binInt, binStr, binBool, sliceOf, bndOf, repl, fillC, zeroC, chunks, ptrIds, tabs, upd_app, mem_nil_app, entry_zero, entry_succ, entry_nil, top_app, maxStr, ByteArray.size, A.kill, O.kill, killS_app, killM_app, Nat.reduceAdd, Nat.reduceLeDiff, Nat.reduceEqDiff, Nat.reduceMul, Int.reduceToNat, reduceIte, wf_i64, Int.reduceLE, Int.reduceNeg, beq_self_eq_true, decide_true, decide_false, ybeq_some, ybeq_none, beqT, beqF, empty_toList, exs]; rfl) ?_
  repeat (first | refine W.seq ?_ | refine W.block ?_ | refine W.skip ?_ | refine W.exit ?_ | refine W.region tab_ok 0 (by decide) (exec_run (by simp only [exec, stepQ, wantA, yieldA, kind, qv, qv1, qv2, stO, adrId, dataC, replC, eqNil, binNil, shiftInt, A.down, A1.up, downs, toR, ev, putS, rowO, ofConst, cellsA, cellsC, asC, asCs, ld, ldR, bin, binInt, binStr, binBool, sliceOf, bndOf, repl, fillC, zeroC, chunks, ptrIds, tabs, upd_app, mem_nil_app, entry_zero, entry_succ, entry_nil, top_app, maxStr, ByteArray.size, A.kill, O.kill, killS_app, killM_app, Nat.reduceAdd, Nat.reduceLeDiff, Nat.reduceEqDiff, Nat.reduceMul, Int.reduceToNat, reduceIte, wf_i64, Int.reduceLE, Int.reduceNeg, beq_self_eq_true, decide_true, decide_false, ybeq_some, ybeq_none, beqT, beqF, empty_toList, exs]; rfl)) ?_)
  refine W.ret ⟨.inr rfl, by rfl, ?_⟩
  simp only [Try.f24, resA, resOne, toT, fin, exec, stepQ, wantA, yieldA, kind, qv, qv1, qv2, stO, adrId, dataC, replC, eqNil, binNil, shiftInt, A.down, A1.up, downs, toR, ev, putS, rowO, ofConst, cellsA, cellsC, asC, asCs, ld, ldR, bin, binInt, binStr, binBool, sliceOf, bndOf, repl, fillC, zeroC, chunks, ptrIds, tabs, upd_app, mem_nil_app, entry_zero, entry_succ, entry_nil, top_app, maxStr, ByteArray.size, A.kill, O.kill, killS_app, killM_app, Nat.reduceAdd, Nat.reduceLeDiff, Nat.reduceEqDiff, Nat.reduceMul, Int.reduceToNat, reduceIte, wf_i64, Int.reduceLE, Int.reduceNeg, beq_self_eq_true, decide_true, decide_false, ybeq_some, ybeq_none, beqT, beqF, empty_toList, exs]
  rw [idxB_any p l]
theorem idxMethod_ok (l : List Method) (f : FuncId) (caps : List (List C)) (p : Method → Bool) (hlen : l.length ≤ 1000000000000) (hk : ∀ x ∈ l, ∀ m, COk Try.prog f (.agg (cMethod x) :: caps.map A.rptr) m (.c (.bool (p x)))) (m : Mem) : COk Try.prog 48 [.c (.sl (l.map cMethod)), .fnR f caps] m (.c (.int .i64 (idxB p l))) := by
  refine (ok_pure tab_ok Try.func48 (by kernel_rfl) rfl rfl (by rfl) (by rfl) (by rfl) (fun R hkeep => ?_) m)
  repeat (first | refine W.seq ?_ | refine W.block ?_ | refine W.skip ?_ | refine W.exit ?_ | refine W.region tab_ok 0 (by decide) (exec_run (by simp only [exec, stepQ, wantA, yieldA, kind, qv, qv1, qv2, stO, adrId, dataC, replC, eqNil, binNil, shiftInt, A.down, A1.up, downs, toR, ev, putS, rowO, ofConst, cellsA, cellsC, asC, asCs, ld, ldR, bin, binInt, binStr, binBool, sliceOf, bndOf, repl, fillC, zeroC, chunks, ptrIds, tabs, upd_app, mem_nil_app, entry_zero, entry_succ, entry_nil, top_app, maxStr, ByteArray.size, A.kill, O.kill, killS_app, killM_app, Nat.reduceAdd, Nat.reduceLeDiff, Nat.reduceEqDiff, Nat.reduceMul, Int.reduceToNat, reduceIte, wf_i64, Int.reduceLE, Int.reduceNeg, beq_self_eq_true, decide_true, decide_false, ybeq_some, ybeq_none, beqT, beqF, empty_toList, exs]; rfl)) ?_)
  refine W.loop (ι := Nat) (fun k => ⟨upd (upd (upd (upd (upd (fun _ => .top) 0 (.c (.sl (l.map cMethod)))) 1 (.fnR f caps)) 4 (.c (.int .i64 0))) 7 (.c (.int .i64 l.length))) 8 (.c (.int .i64 k)), Mem.nil⟩) (fun k => k ≤ l.length ∧ (l.take k).any p = false) (fun k => l.length - k) 0 ?start ⟨Nat.zero_le _, rfl⟩ ?round
  case start =>
    refine le_mk ?sle ?mle ?swf ?mwf ?kept (by rfl)
    case kept => exact kept_not hkeep
    case swf => repeat (first | exact swf_top _ | refine swf_upd ?_ (by simp [A.ids, upd_app]))
    case mwf => repeat (first | exact mwf_nil _ | refine mwf_upd ?_ (by simp [A.ids, O.ids, upd_app]))
    case mle => repeat (first | exact mle_nil _ | exact mle_refl _ | refine mle_upd ?_ (by first | rfl | (simp only [upd_app, killM_app, Nat.reduceEqDiff, reduceIte]; done)))
    case sle => repeat (first | exact sle_top _ | exact sle_refl _ | refine sle_upd ?_ (by first | rfl | (simp only [upd_app, entry_zero, entry_succ, Nat.reduceEqDiff, reduceIte]; done)))
  case round =>
    rintro k ⟨hkl, hno⟩
    repeat (first | refine W.seq ?_ | refine W.block ?_ | refine W.skip ?_ | refine W.exit ?_ | refine W.region tab_ok 0 (by decide) (exec_run (by simp only [exec, stepQ, wantA, yieldA, kind, qv, qv1, qv2, stO, adrId, dataC, replC, eqNil, binNil, shiftInt, A.down, A1.up, downs, toR, ev, putS, rowO, ofConst, cellsA, cellsC, asC, asCs, ld, ldR, bin, binInt, binStr, binBool, sliceOf, bndOf, repl, fillC, zeroC, chunks, ptrIds, tabs, upd_app, mem_nil_app, entry_zero, entry_succ, entry_nil, top_app, maxStr, ByteArray.size, A.kill, O.kill, killS_app, killM_app, Nat.reduceAdd, Nat.reduceLeDiff, Nat.reduceEqDiff, Nat.reduceMul, Int.reduceToNat, reduceIte, wf_i64, Int.reduceLE, Int.reduceNeg, beq_self_eq_true, decide_true, decide_false, ybeq_some, ybeq_none, beqT, beqF, empty_toList, exs]; rfl)) ?_)
    refine W.cond rfl ?_ ?_
    · intro hlt
      simp only [decide_eq_true_eq, Int.ofNat_lt] at hlt
      obtain ⟨x, hx⟩ : ∃ x, l[k]? = some x := ⟨_, List.getElem?_eq_getElem hlt⟩
      repeat (first | refine W.seq ?_ | refine W.block ?_ | refine W.skip ?_ | refine W.exit ?_ | refine W.region tab_ok 0 (by decide) (exec_run (by simp only [exec, stepQ, wantA, yieldA, kind, qv, qv1, qv2, stO, adrId, dataC, replC, eqNil, binNil, shiftInt, A.down, A1.up, downs, toR, ev, putS, rowO, ofConst, cellsA, cellsC, asC, asCs, ld, ldR, bin, binInt, binStr, binBool, sliceOf, bndOf, repl, fillC, zeroC, chunks, ptrIds, tabs, upd_app, mem_nil_app, entry_zero, entry_succ, entry_nil, top_app, maxStr, ByteArray.size, A.kill, O.kill, killS_app, killM_app, Nat.reduceAdd, Nat.reduceLeDiff, Nat.reduceEqDiff, Nat.reduceMul, Int.reduceToNat, reduceIte, wf_i64, Int.reduceLE, Int.reduceNeg, beq_self_eq_true, decide_true, decide_false, ybeq_some, ybeq_none, beqT, beqF, empty_toList, exs]; rfl)) ?_)
      refine W.regionK tab_ok 0 (by decide) ?_
      refine runk_split 5 (by simp only [exec, stepQ, wantA, yieldA, kind, qv, qv1, qv2, stO, adrId, dataC, replC, eqNil, binNil, shiftInt, A.down, A1.up, downs, toR, ev, putS, rowO, ofConst, cellsA, cellsC, asC, asCs, ld, ldR, bin, binInt, binStr, binBool, sliceOf, bndOf, repl, fillC, zeroC, chunks, ptrIds, tabs, upd_app, mem_nil_app, entry_zero, entry_succ, entry_nil, top_app, maxStr, ByteArray.size, A.kill, O.kill, killS_app, killM_app, Nat.reduceAdd, Nat.reduceLeDiff, Nat.reduceEqDiff, Nat.reduceMul, Int.reduceToNat, reduceIte, wf_i64, Int.reduceLE, Int.reduceNeg, beq_self_eq_true, decide_true, decide_false, ybeq_some, ybeq_none, beqT, beqF, empty_toList, exs, at_map hx, cMethod]; rfl) ?_
      refine runk_callF rfl rfl rfl rfl rfl (cvs_cons cv_refl (cvs_caps _)) (hk x (List.mem_of_getElem? hx) _) ?_
      refine runk_exec (by simp only [exec, stepQ, wantA, yieldA, kind, qv, qv1, qv2, stO, adrId, dataC, replC, eqNil, binNil, shiftInt, A.down, A1.up, downs, toR, ev, putS, rowO, ofConst, cellsA, cellsC, asC, asCs, ld, ldR, bin, binInt, binStr, binBool, sliceOf, bndOf, repl, fillC, zeroC, chunks, ptrIds, tabs, upd_app, mem_nil_app, entry_zero, entry_succ, entry_nil, top_app, maxStr, ByteArray.size, A.kill, O.kill, killS_app, killM_app, Nat.reduceAdd, Nat.reduceLeDiff, Nat.reduceEqDiff, Nat.reduceMul, Int.reduceToNat, reduceIte, wf_i64, Int.reduceLE, Int.reduceNeg, beq_self_eq_true, decide_true, decide_false, ybeq_some, ybeq_none, beqT, beqF, empty_toList, exs]; rfl) ?_
      refine W.cond rfl ?_ ?_
      · intro hp
        repeat (first | refine W.seq ?_ | refine W.block ?_ | refine W.skip ?_ | refine W.exit ?_ | refine W.region tab_ok 0 (by decide) (exec_run (by simp only [exec, stepQ, wantA, yieldA, kind, qv, qv1, qv2, stO, adrId, dataC, replC, eqNil, binNil, shiftInt, A.down, A1.up, downs, toR, ev, putS, rowO, ofConst, cellsA, cellsC, asC, asCs, ld, ldR, bin, binInt, binStr, binBool, sliceOf, bndOf, repl, fillC, zeroC, chunks, ptrIds, tabs, upd_app, mem_nil_app, entry_zero, entry_succ, entry_nil, top_app, maxStr, ByteArray.size, A.kill, O.kill, killS_app, killM_app, Nat.reduceAdd, Nat.reduceLeDiff, Nat.reduceEqDiff, Nat.reduceMul, Int.reduceToNat, reduceIte, wf_i64, Int.reduceLE, Int.reduceNeg, beq_self_eq_true, decide_true, decide_false, ybeq_some, ybeq_none, beqT, beqF, empty_toList, exs]; rfl)) ?_)
        refine W.ret ⟨.inr rfl, by rfl, ?_⟩
        simp only [Try.f48, resA, resOne, toT, fin, exec, stepQ, wantA, yieldA, kind, qv, qv1, qv2, stO, adrId, dataC, replC, eqNil, binNil, shiftInt, A.down, A1.up, downs, toR, ev, putS, rowO, ofConst, cellsA, cellsC, asC, asCs, ld, ldR, bin, binInt, binStr, binBool, sliceOf, bndOf, repl, fillC, zeroC, chunks, ptrIds, tabs, upd_app, mem_nil_app, entry_zero, entry_succ, entry_nil, top_app, maxStr, ByteArray.size, A.kill, O.kill, killS_app, killM_app, Nat.reduceAdd, Nat.reduceLeDiff, Nat.reduceEqDiff, Nat.reduceMul, Int.reduceToNat, reduceIte, wf_i64, Int.reduceLE, Int.reduceNeg, beq_self_eq_true, decide_true, decide_false, ybeq_some, ybeq_none, beqT, beqF, empty_toList, exs]
        rw [idxB_at hno hx hp]
      · intro hp
        repeat (first | refine W.seq ?_ | refine W.block ?_ | refine W.skip ?_ | refine W.exit ?_ | refine W.region tab_ok 0 (by decide) (exec_run (by simp only [exec, stepQ, wantA, yieldA, kind, qv, qv1, qv2, stO, adrId, dataC, replC, eqNil, binNil, shiftInt, A.down, A1.up, downs, toR, ev, putS, rowO, ofConst, cellsA, cellsC, asC, asCs, ld, ldR, bin, binInt, binStr, binBool, sliceOf, bndOf, repl, fillC, zeroC, chunks, ptrIds, tabs, upd_app, mem_nil_app, entry_zero, entry_succ, entry_nil, top_app, maxStr, ByteArray.size, A.kill, O.kill, killS_app, killM_app, Nat.reduceAdd, Nat.reduceLeDiff, Nat.reduceEqDiff, Nat.reduceMul, Int.reduceToNat, reduceIte, wf_i64, Int.reduceLE, Int.reduceNeg, beq_self_eq_true, decide_true, decide_false, ybeq_some, ybeq_none, beqT, beqF, empty_toList, exs]; rfl)) ?_)
        refine ⟨k + 1, ⟨hlt, ?_⟩, by omega, ?_⟩
        · rw [List.take_add_one, hx, List.any_append, hno]; simp [hp]
        refine le_mk ?sle ?mle ?swf ?mwf ?kept (by rfl)
        case kept => exact kept_not hkeep
        case swf => repeat (first | exact swf_top _ | refine swf_upd ?_ (by simp [A.ids, upd_app]))
        case mwf => repeat (first | exact mwf_nil _ | refine mwf_upd ?_ (by simp [A.ids, O.ids, upd_app]))
        case mle => repeat (first | exact mle_nil _ | exact mle_refl _ | refine mle_upd ?_ (by first | rfl | (simp only [upd_app, killM_app, Nat.reduceEqDiff, reduceIte, wrap_succ (show k + 1 < 9223372036854775808 by omega)]; done)))
        case sle => repeat (first | exact sle_top _ | exact sle_refl _ | refine sle_upd ?_ (by first | rfl | (simp only [upd_app, entry_zero, entry_succ, Nat.reduceEqDiff, reduceIte, wrap_succ (show k + 1 < 9223372036854775808 by omega)]; done)))
    · intro hge
      simp only [decide_eq_false_iff_not, Int.ofNat_lt] at hge
      obtain rfl : k = l.length := by omega
      rw [List.take_length] at hno
      repeat (first | refine W.seq ?_ | refine W.block ?_ | refine W.skip ?_ | refine W.exit ?_ | refine W.region tab_ok 0 (by decide) (exec_run (by simp only [exec, stepQ, wantA, yieldA, kind, qv, qv1, qv2, stO, adrId, dataC, replC, eqNil, binNil, shiftInt, A.down, A1.up, downs, toR, ev, putS, rowO, ofConst, cellsA, cellsC, asC, asCs, ld, ldR, bin, binInt, binStr, binBool, sliceOf, bndOf, repl, fillC, zeroC, chunks, ptrIds, tabs, upd_app, mem_nil_app, entry_zero, entry_succ, entry_nil, top_app, maxStr, ByteArray.size, A.kill, O.kill, killS_app, killM_app, Nat.reduceAdd, Nat.reduceLeDiff, Nat.reduceEqDiff, Nat.reduceMul, Int.reduceToNat, reduceIte, wf_i64, Int.reduceLE, Int.reduceNeg, beq_self_eq_true, decide_true, decide_false, ybeq_some, ybeq_none, beqT, beqF, empty_toList, exs]; rfl)) ?_)
      refine W.ret ⟨.inr rfl, by rfl, ?_⟩
      simp only [Try.f48, resA, resOne, toT, fin, exec, stepQ, wantA, yieldA, kind, qv, qv1, qv2, stO, adrId, dataC, replC, eqNil, binNil, shiftInt, A.down, A1.up, downs, toR, ev, putS, rowO, ofConst, cellsA, cellsC, asC, asCs, ld, ldR, bin, binInt, binStr, binBool, sliceOf, bndOf, repl, fillC, zeroC, chunks, ptrIds, tabs, upd_app, mem_nil_app, entry_zero, entry_succ, entry_nil, top_app, maxStr, ByteArray.size, A.kill, O.kill, killS_app, killM_app, Nat.reduceAdd, Nat.reduceLeDiff, Nat.reduceEqDiff, Nat.reduceMul, Int.reduceToNat, reduceIte, wf_i64, Int.reduceLE, Int.reduceNeg, beq_self_eq_true, decide_true, decide_false, ybeq_some, ybeq_none, beqT, beqF, empty_toList, exs]
      rw [idxB_none hno]
theorem class1_ok (d : Class) (x : Class) (m : Mem) : COk Try.prog 46 [.agg (cClass d), .rptr (cClass x)] m (.c (.bool (d.name.toList == x.super.toList))) := by
  refine (ok_pure tab_ok Try.func46 (by kernel_rfl) rfl rfl (by rfl) (by rfl) (by rfl) (fun R hkeep => ?_) m)
  repeat (first | refine W.seq ?_ | refine W.block ?_ | refine W.skip ?_ | refine W.exit ?_ | refine W.region tab_ok 0 (by decide) (exec_run (by simp only [exec, stepQ, wantA, yieldA, kind, qv, qv1, qv2, stO, adrId, dataC, replC, eqNil, binNil, shiftInt, A.down, A1.up, downs, toR, ev, putS, rowO, ofConst, cellsA, cellsC, asC, asCs, ld, ldR, bin, binInt, binStr, binBool, sliceOf, bndOf, repl, fillC, zeroC, chunks, ptrIds, tabs, upd_app, mem_nil_app, entry_zero, entry_succ, entry_nil, top_app, maxStr, ByteArray.size, A.kill, O.kill, killS_app, killM_app, Nat.reduceAdd, Nat.reduceLeDiff, Nat.reduceEqDiff, Nat.reduceMul, Int.reduceToNat, reduceIte, wf_i64, Int.reduceLE, Int.reduceNeg, beq_self_eq_true, decide_true, decide_false, ybeq_some, ybeq_none, beqT, beqF, empty_toList, exs, cClass]; rfl)) ?_)
  refine W.ret ⟨.inr rfl, by rfl, ?_⟩
  simp only [Try.f46, resA, resOne, toT, fin, exec, stepQ, wantA, yieldA, kind, qv, qv1, qv2, stO, adrId, dataC, replC, eqNil, binNil, shiftInt, A.down, A1.up, downs, toR, ev, putS, rowO, ofConst, cellsA, cellsC, asC, asCs, ld, ldR, bin, binInt, binStr, binBool, sliceOf, bndOf, repl, fillC, zeroC, chunks, ptrIds, tabs, upd_app, mem_nil_app, entry_zero, entry_succ, entry_nil, top_app, maxStr, ByteArray.size, A.kill, O.kill, killS_app, killM_app, Nat.reduceAdd, Nat.reduceLeDiff, Nat.reduceEqDiff, Nat.reduceMul, Int.reduceToNat, reduceIte, wf_i64, Int.reduceLE, Int.reduceNeg, beq_self_eq_true, decide_true, decide_false, ybeq_some, ybeq_none, beqT, beqF, empty_toList, exs, cClass]
theorem class2_ok (o : Method) (x : Method) (m : Mem) : COk Try.prog 49 [.agg (cMethod o), .rptr (cMethod x)] m (.c (.bool (o.name.toList == x.name.toList))) := by
  refine (ok_pure tab_ok Try.func49 (by kernel_rfl) rfl rfl (by rfl) (by rfl) (by rfl) (fun R hkeep => ?_) m)
  repeat (first | refine W.seq ?_ | refine W.block ?_ | refine W.skip ?_ | refine W.exit ?_ | refine W.region tab_ok 0 (by decide) (exec_run (by simp only [exec, stepQ, wantA, yieldA, kind, qv, qv1, qv2, stO, adrId, dataC, replC, eqNil, binNil, shiftInt, A.down, A1.up, downs, toR, ev, putS, rowO, ofConst, cellsA, cellsC, asC, asCs, ld, ldR, bin, binInt, binStr, binBool, sliceOf, bndOf, repl, fillC, zeroC, chunks, ptrIds, tabs, upd_app, mem_nil_app, entry_zero, entry_succ, entry_nil, top_app, maxStr, ByteArray.size, A.kill, O.kill, killS_app, killM_app, Nat.reduceAdd, Nat.reduceLeDiff, Nat.reduceEqDiff, Nat.reduceMul, Int.reduceToNat, reduceIte, wf_i64, Int.reduceLE, Int.reduceNeg, beq_self_eq_true, decide_true, decide_false, ybeq_some, ybeq_none, beqT, beqF, empty_toList, exs, cMethod]; rfl)) ?_)
  refine W.ret ⟨.inr rfl, by rfl, ?_⟩
  simp only [Try.f49, resA, resOne, toT, fin, exec, stepQ, wantA, yieldA, kind, qv, qv1, qv2, stO, adrId, dataC, replC, eqNil, binNil, shiftInt, A.down, A1.up, downs, toR, ev, putS, rowO, ofConst, cellsA, cellsC, asC, asCs, ld, ldR, bin, binInt, binStr, binBool, sliceOf, bndOf, repl, fillC, zeroC, chunks, ptrIds, tabs, upd_app, mem_nil_app, entry_zero, entry_succ, entry_nil, top_app, maxStr, ByteArray.size, A.kill, O.kill, killS_app, killM_app, Nat.reduceAdd, Nat.reduceLeDiff, Nat.reduceEqDiff, Nat.reduceMul, Int.reduceToNat, reduceIte, wf_i64, Int.reduceLE, Int.reduceNeg, beq_self_eq_true, decide_true, decide_false, ybeq_some, ybeq_none, beqT, beqF, empty_toList, exs, cMethod]
theorem namesS_ok (l : List Slot) (hlen : l.length ≤ 1000000000) (m : Mem) : COk Try.prog 47 [.c (.sl (l.map cSlot))] m (.c (.sl ((namesL l).map cStr))) := by
  refine (ok_pure tab_ok Try.func47 (by kernel_rfl) rfl rfl (by rfl) (by rfl) (by rfl) (fun R hkeep => ?_) m)
  repeat (first | refine W.seq ?_ | refine W.block ?_ | refine W.skip ?_ | refine W.exit ?_ | refine W.region tab_ok 0 (by decide) (exec_run (by simp only [exec, stepQ, wantA, yieldA, kind, qv, qv1, qv2, stO, adrId, dataC, replC, eqNil, binNil, shiftInt, A.down, A1.up, downs, toR, ev, putS, rowO, ofConst, cellsA, cellsC, asC, asCs, ld, ldR, bin, binInt, binStr, binBool, sliceOf, bndOf, repl, fillC, zeroC, chunks, ptrIds, tabs, upd_app, mem_nil_app, entry_zero, entry_succ, entry_nil, top_app, maxStr, ByteArray.size, A.kill, O.kill, killS_app, killM_app, Nat.reduceAdd, Nat.reduceLeDiff, Nat.reduceEqDiff, Nat.reduceMul, Int.reduceToNat, reduceIte, wf_i64, Int.reduceLE, Int.reduceNeg, beq_self_eq_true, decide_true, decide_false, ybeq_some, ybeq_none, beqT, beqF, empty_toList, exs]; rfl)) ?_)
  refine W.newArr 2 2 9 1 rfl rfl ?_
  repeat (first | refine W.seq ?_ | refine W.block ?_ | refine W.skip ?_ | refine W.exit ?_ | refine W.region tab_ok 0 (by decide) (exec_run (by simp only [exec, stepQ, wantA, yieldA, kind, qv, qv1, qv2, stO, adrId, dataC, replC, eqNil, binNil, shiftInt, A.down, A1.up, downs, toR, ev, putS, rowO, ofConst, cellsA, cellsC, asC, asCs, ld, ldR, bin, binInt, binStr, binBool, sliceOf, bndOf, repl, fillC, zeroC, chunks, ptrIds, tabs, upd_app, mem_nil_app, entry_zero, entry_succ, entry_nil, top_app, maxStr, ByteArray.size, A.kill, O.kill, killS_app, killM_app, Nat.reduceAdd, Nat.reduceLeDiff, Nat.reduceEqDiff, Nat.reduceMul, Int.reduceToNat, reduceIte, wf_i64, Int.reduceLE, Int.reduceNeg, beq_self_eq_true, decide_true, decide_false, ybeq_some, ybeq_none, beqT, beqF, empty_toList, exs]; rfl)) ?_)
  refine W.loop (ι := Nat) (fun k => ⟨upd (upd (upd (upd (fun _ => .top) 2 (.own 2)) 5 (.c (.sl (l.map cSlot)))) 6 (.c (.int .i64 l.length))) 7 (.c (.int .i64 k)), upd Mem.nil 2 (some (.arr 9 1 ((namesL (l.take k)).map cStr)))⟩) (fun k => k ≤ l.length) (fun k => l.length - k) 0 ?start (Nat.zero_le _) ?round
  case start =>
    refine le_mk ?sle ?mle ?swf ?mwf ?kept (by rfl)
    case kept => exact kept_not hkeep
    case swf => repeat (first | exact swf_top _ | refine swf_upd ?_ (by simp [A.ids, upd_app]))
    case mwf => repeat (first | exact mwf_nil _ | refine mwf_upd ?_ (by simp [A.ids, O.ids, upd_app]))
    case mle => repeat (first | exact mle_nil _ | exact mle_refl _ | refine mle_upd ?_ (by first | rfl | (simp only [upd_app, killM_app, Nat.reduceEqDiff, reduceIte, List.take_zero, namesL, List.map_nil]; done)))
    case sle => repeat (first | exact sle_top _ | exact sle_refl _ | refine sle_upd ?_ (by first | rfl | (simp only [upd_app, entry_zero, entry_succ, Nat.reduceEqDiff, reduceIte, List.take_zero, namesL, List.map_nil]; done)))
  case round =>
    intro k hk
    repeat (first | refine W.seq ?_ | refine W.block ?_ | refine W.skip ?_ | refine W.exit ?_ | refine W.region tab_ok 0 (by decide) (exec_run (by simp only [exec, stepQ, wantA, yieldA, kind, qv, qv1, qv2, stO, adrId, dataC, replC, eqNil, binNil, shiftInt, A.down, A1.up, downs, toR, ev, putS, rowO, ofConst, cellsA, cellsC, asC, asCs, ld, ldR, bin, binInt, binStr, binBool, sliceOf, bndOf, repl, fillC, zeroC, chunks, ptrIds, tabs, upd_app, mem_nil_app, entry_zero, entry_succ, entry_nil, top_app, maxStr, ByteArray.size, A.kill, O.kill, killS_app, killM_app, Nat.reduceAdd, Nat.reduceLeDiff, Nat.reduceEqDiff, Nat.reduceMul, Int.reduceToNat, reduceIte, wf_i64, Int.reduceLE, Int.reduceNeg, beq_self_eq_true, decide_true, decide_false, ybeq_some, ybeq_none, beqT, beqF, empty_toList, exs]; rfl)) ?_)
    refine W.cond rfl ?_ ?_
    · intro hlt
      simp only [decide_eq_true_eq, Int.ofNat_lt] at hlt
      obtain ⟨x, hx⟩ : ∃ x, l[k]? = some x := ⟨_, List.getElem?_eq_getElem hlt⟩
      repeat (first | refine W.seq ?_ | refine W.block ?_ | refine W.skip ?_ | refine W.exit ?_ | refine W.region tab_ok 0 (by decide) (exec_run (by simp only [exec, stepQ, wantA, yieldA, kind, qv, qv1, qv2, stO, adrId, dataC, replC, eqNil, binNil, shiftInt, A.down, A1.up, downs, toR, ev, putS, rowO, ofConst, cellsA, cellsC, asC, asCs, ld, ldR, bin, binInt, binStr, binBool, sliceOf, bndOf, repl, fillC, zeroC, chunks, ptrIds, tabs, upd_app, mem_nil_app, entry_zero, entry_succ, entry_nil, top_app, maxStr, ByteArray.size, A.kill, O.kill, killS_app, killM_app, Nat.reduceAdd, Nat.reduceLeDiff, Nat.reduceEqDiff, Nat.reduceMul, Int.reduceToNat, reduceIte, wf_i64, Int.reduceLE, Int.reduceNeg, beq_self_eq_true, decide_true, decide_false, ybeq_some, ybeq_none, beqT, beqF, empty_toList, exs, at_map hx, cSlot]; rfl)) ?_)
      refine W.regionK tab_ok 0 (by decide) ?_
      refine runk_split 4 (by simp only [exec, stepQ, wantA, yieldA, kind, qv, qv1, qv2, stO, adrId, dataC, replC, eqNil, binNil, shiftInt, A.down, A1.up, downs, toR, ev, putS, rowO, ofConst, cellsA, cellsC, asC, asCs, ld, ldR, bin, binInt, binStr, binBool, sliceOf, bndOf, repl, fillC, zeroC, chunks, ptrIds, tabs, upd_app, mem_nil_app, entry_zero, entry_succ, entry_nil, top_app, maxStr, ByteArray.size, A.kill, O.kill, killS_app, killM_app, Nat.reduceAdd, Nat.reduceLeDiff, Nat.reduceEqDiff, Nat.reduceMul, Int.reduceToNat, reduceIte, wf_i64, Int.reduceLE, Int.reduceNeg, beq_self_eq_true, decide_true, decide_false, ybeq_some, ybeq_none, beqT, beqF, empty_toList, exs]; rfl) ?_
      refine runk_append tab_ok 2 rfl rfl rfl rfl rfl rfl rfl rfl (by first | rfl | (simp only [exec, stepQ, wantA, yieldA, kind, qv, qv1, qv2, stO, adrId, dataC, replC, eqNil, binNil, shiftInt, A.down, A1.up, downs, toR, ev, putS, rowO, ofConst, cellsA, cellsC, asC, asCs, ld, ldR, bin, binInt, binStr, binBool, sliceOf, bndOf, repl, fillC, zeroC, chunks, ptrIds, tabs, upd_app, mem_nil_app, entry_zero, entry_succ, entry_nil, top_app, maxStr, ByteArray.size, A.kill, O.kill, killS_app, killM_app, Nat.reduceAdd, Nat.reduceLeDiff, Nat.reduceEqDiff, Nat.reduceMul, Int.reduceToNat, reduceIte, wf_i64, Int.reduceLE, Int.reduceNeg, beq_self_eq_true, decide_true, decide_false, ybeq_some, ybeq_none, beqT, beqF, empty_toList, exs]; rfl)) rfl rfl rfl rfl (nokeep hkeep) (by simp) (by simp [namesL]; omega) (by decide) ?_
      refine runk_exec (by simp only [exec, stepQ, wantA, yieldA, kind, qv, qv1, qv2, stO, adrId, dataC, replC, eqNil, binNil, shiftInt, A.down, A1.up, downs, toR, ev, putS, rowO, ofConst, cellsA, cellsC, asC, asCs, ld, ldR, bin, binInt, binStr, binBool, sliceOf, bndOf, repl, fillC, zeroC, chunks, ptrIds, tabs, upd_app, mem_nil_app, entry_zero, entry_succ, entry_nil, top_app, maxStr, ByteArray.size, A.kill, O.kill, killS_app, killM_app, Nat.reduceAdd, Nat.reduceLeDiff, Nat.reduceEqDiff, Nat.reduceMul, Int.reduceToNat, reduceIte, wf_i64, Int.reduceLE, Int.reduceNeg, beq_self_eq_true, decide_true, decide_false, ybeq_some, ybeq_none, beqT, beqF, empty_toList, exs]; rfl) ?_
      repeat (first | refine W.seq ?_ | refine W.block ?_ | refine W.skip ?_ | refine W.exit ?_ | refine W.region tab_ok 0 (by decide) (exec_run (by simp only [exec, stepQ, wantA, yieldA, kind, qv, qv1, qv2, stO, adrId, dataC, replC, eqNil, binNil, shiftInt, A.down, A1.up, downs, toR, ev, putS, rowO, ofConst, cellsA, cellsC, asC, asCs, ld, ldR, bin, binInt, binStr, binBool, sliceOf, bndOf, repl, fillC, zeroC, chunks, ptrIds, tabs, upd_app, mem_nil_app, entry_zero, entry_succ, entry_nil, top_app, maxStr, ByteArray.size, A.kill, O.kill, killS_app, killM_app, Nat.reduceAdd, Nat.reduceLeDiff, Nat.reduceEqDiff, Nat.reduceMul, Int.reduceToNat, reduceIte, wf_i64, Int.reduceLE, Int.reduceNeg, beq_self_eq_true, decide_true, decide_false, ybeq_some, ybeq_none, beqT, beqF, empty_toList, exs]; rfl)) ?_)
      refine ⟨k + 1, hlt, by omega, ?_⟩
      refine le_mk ?sle ?mle ?swf ?mwf ?kept (by rfl)
      case kept => exact kept_not hkeep
      case swf => repeat (first | exact swf_top _ | refine swf_upd ?_ (by simp [A.ids, upd_app]))
      case mwf => repeat (first | exact mwf_nil _ | refine mwf_upd ?_ (by simp [A.ids, O.ids, upd_app]))
      case mle => repeat (first | exact mle_nil _ | exact mle_refl _ | refine mle_upd ?_ (by first | rfl | (simp only [upd_app, killM_app, Nat.reduceEqDiff, reduceIte, wrap_succ (show k + 1 < 9223372036854775808 by omega), namesL_take hx, List.map_append, List.map_cons, List.map_nil, cStr]; done)))
      case sle => repeat (first | exact sle_top _ | exact sle_refl _ | refine sle_upd ?_ (by first | rfl | (simp only [upd_app, entry_zero, entry_succ, Nat.reduceEqDiff, reduceIte, wrap_succ (show k + 1 < 9223372036854775808 by omega), namesL_take hx, List.map_append, List.map_cons, List.map_nil, cStr]; done)))
    · intro hge
      simp only [decide_eq_false_iff_not, Int.ofNat_lt] at hge
      obtain rfl : k = l.length := by omega
      repeat (first | refine W.seq ?_ | refine W.block ?_ | refine W.skip ?_ | refine W.exit ?_ | refine W.region tab_ok 0 (by decide) (exec_run (by simp only [exec, stepQ, wantA, yieldA, kind, qv, qv1, qv2, stO, adrId, dataC, replC, eqNil, binNil, shiftInt, A.down, A1.up, downs, toR, ev, putS, rowO, ofConst, cellsA, cellsC, asC, asCs, ld, ldR, bin, binInt, binStr, binBool, sliceOf, bndOf, repl, fillC, zeroC, chunks, ptrIds, tabs, upd_app, mem_nil_app, entry_zero, entry_succ, entry_nil, top_app, maxStr, ByteArray.size, A.kill, O.kill, killS_app, killM_app, Nat.reduceAdd, Nat.reduceLeDiff, Nat.reduceEqDiff, Nat.reduceMul, Int.reduceToNat, reduceIte, wf_i64, Int.reduceLE, Int.reduceNeg, beq_self_eq_true, decide_true, decide_false, ybeq_some, ybeq_none, beqT, beqF, empty_toList, exs]; rfl)) ?_)
      refine W.ret ⟨.inr rfl, by rfl, ?_⟩
      simp only [Try.f47, resA, resOne, toT, fin, exec, stepQ, wantA, yieldA, kind, qv, qv1, qv2, stO, adrId, dataC, replC, eqNil, binNil, shiftInt, A.down, A1.up, downs, toR, ev, putS, rowO, ofConst, cellsA, cellsC, asC, asCs, ld, ldR, bin, binInt, binStr, binBool, sliceOf, bndOf, repl, fillC, zeroC, chunks, ptrIds, tabs, upd_app, mem_nil_app, entry_zero, entry_succ, entry_nil, top_app, maxStr, ByteArray.size, A.kill, O.kill, killS_app, killM_app, Nat.reduceAdd, Nat.reduceLeDiff, Nat.reduceEqDiff, Nat.reduceMul, Int.reduceToNat, reduceIte, wf_i64, Int.reduceLE, Int.reduceNeg, beq_self_eq_true, decide_true, decide_false, ybeq_some, ybeq_none, beqT, beqF, empty_toList, exs]
      rw [List.take_length]
theorem rc_strs {w : World} {I : Nat → Nat → Prop} {v : Value} {l : List ByteArray} (hI : ∀ b o, I b o → b < w.heap.size) (h : RC w I v (.sl (l.map cStr))) : RStrs w v l ∧ ∀ s ∈ l, s.size ≤ maxLen := by
  cases h with
  | @sl a n cap e _ f hn hc hm hl ha hr =>
    have key : ∀ i x, l[i]? = some x → ∃ b off, a = some ⟨b, off, none⟩ ∧ b < w.heap.size ∧ w.cell? ⟨b, off + i, none⟩ = some (.string x) ∧ x.size ≤ maxStr := fun i x hx => by
      have hx' : (l.map cStr)[i]? = some (cStr x) := by simp [hx]
      have he : e = 1 := (hl _ (List.mem_of_getElem? hx')).symm
      subst he
      obtain ⟨b, off, ea, hcell⟩ := ha i _ hx'
      have h0 := RC.toStr (hr i 0 _ _ hx' rfl)
      have h1 := hcell 0 (by decide)
      rw [h0.1] at h1
      simp only [Nat.mul_one, Nat.add_zero] at h1
      exact ⟨b, off, ea, hI _ _ h1.1, h1.2, h0.2⟩
    refine ⟨⟨a, n, cap, rfl, by simpa using hn, by unfold maxLen at hm; omega, fun i x hx => let ⟨b, off, h1, h2, h3, _⟩ := key i x hx; ⟨b, off, h1, h2, h3⟩⟩, fun s hs => ?_⟩
    obtain ⟨i, hi⟩ := List.getElem?_of_mem hs
    obtain ⟨b, off, h1, h2, h3, h4⟩ := key i s hi
    unfold maxStr at h4; unfold maxLen; omega
theorem once_ok (l : List ByteArray) (hl : l.length ≤ 1000000000000) (m : Mem) : COk Try.prog 23 [.c (.sl (l.map cStr))] m (.c (.bool (onceB l))) := by
  refine ⟨enters_of Try.func23 (by kernel_rfl) rfl, rfl, fun m' _ => ?_⟩
  intro w0 I0 B I w vals hm hv
  match vals, hv with
  | [v], ⟨h1, _⟩ =>
    obtain ⟨h2, h3⟩ := rc_strs hm.there h1
    refine (once_any v l w h2 hl h3).mono ?_
    rintro e w' ⟨rfl, hb⟩
    exact ⟨_, I, rfl, hb, fun _ _ k => k, fun _ _ k => .inl k, .bool⟩
theorem alike_ok (x y : Method) (m : Mem) : COk Try.prog 50 [.agg (cMethod x), .agg (cMethod y)] m (.c (.bool (alikeB x y))) := by
  refine ⟨enters_of Try.func50 (by kernel_rfl) rfl, rfl, fun m' _ => ?_⟩
  intro w0 I0 B I w vals hm hv
  match vals, hv with
  | [v, u], ⟨h1, h2, _⟩ =>
    obtain ⟨vs, rfl, h1⟩ := h1
    obtain ⟨us, rfl, h2⟩ := h2
    refine (alike_any x y vs us (max (dMethod x) (dMethod y)) w (rcs_method hm.there (Nat.le_max_left _ _) h1) (rcs_method hm.there (Nat.le_max_right _ _) h2)).mono ?_
    rintro e w' ⟨rfl, hb⟩
    exact ⟨_, I, rfl, hb, fun _ _ k => k, fun _ _ k => .inl k, .bool⟩
end V
end Go.Proofs.Ytjciafpihdbedaa
end
section
/- A loop over an iterator that keeps state of its own in one cell: what its contract says; what a caller owes. -/
namespace Go.Proofs.Ytjciafpihdbedaa
open Go.RowKit Go

/-- J speaks neither of what is new nor of block B. -/
def AbidesC {β : Type} (B : Nat) (J : β → World → Prop) : Prop :=
  ∀ s W W' row, J s W → W.grownBy W' row → (∀ r, row = some r → r = B) → J s W'
/-- An iterator hands out what S says; it writes block B alone; between two rounds Kp holds. -/
def SeqC {α : Type} (F : Fence) (n : Nat) (P : Go.Program) (g : Nat) (lb : Array Value) (encs : α → Array Value) (Kp : World → World → Prop) (S Sp : List α → Prop) (N B : Nat) (w : World) : Prop :=
  ∀ (l : Nat) (J Jx : List α → World → Prop) (W : World), Below w.heap.size w W → AbidesC B J → AbidesC B Jx →
    (∀ pre x W1, J pre W1 → pre.length < N → YieldAt F (n - 1) P l (encs x) W1 fun e W' =>
      (e = .returned (.bool true) ∧ J (pre ++ [x]) W' ∧ Kp W1 W') ∨ (e = .returned (.bool false) ∧ Jx (pre ++ [x]) W')) →
    J [] W →
    CallsIn F n P g (#[.func (.yield l) #[] #[]] ++ lb) W fun e W' => (∃ v, e = .returned v) ∧ ((∃ xs, S xs ∧ J xs W') ∨ (∃ pre, Sp pre ∧ Jx pre W'))
/-- What a caller's own facts must bear: new memory, block B, the loop's book-keeping from D on. -/
def OwnC {β : Type} (D B : Nat) (I : β → World → Prop) : Prop :=
  ∀ s W W' row, I s W → W.grownBy W' row → (∀ r, row = some r → r = B ∨ (D ≤ r ∧ ∃ o : Obj, W.heap[r]? = some o ∧ o.isCells = false)) → I s W'
section
variable {β : Type} {D B : Nat} {I : β → World → Prop}
theorem OwnC.put (h : OwnC D B I) {s : β} {W : World} {l : Nat} {o : Obj} (o' : Obj) (hs : I s W) (hD : D ≤ l) (hl : W.heap[l]? = some o) (ho : o.isCells = false) : I s (W.putObj l o') :=
  h s W _ (some l) hs (grownBy_putObj' W l o') (fun r e => by cases e; exact .inr ⟨hD, o, hl, ho⟩)
theorem OwnC.fresh (h : OwnC D B I) {s : β} {W : World} (o : Obj) (hs : I s W) : I s (W.alloc o) :=
  h s W _ none hs (World.grownBy_alloc W o none) (fun r e => by cases e)
theorem OwnC.both {I' : β → World → Prop} (h : OwnC D B I) (h' : OwnC D B I') : OwnC D B (fun s W => I s W ∧ I' s W) :=
  fun s W W' row hs hg hr => ⟨h s W W' row hs.1 hg hr, h' s W W' row hs.2 hg hr⟩
/-- What is said of one block that is not B and is no book-keeping. -/
theorem ownC_block {b : Nat} {o : β → Obj} (hne : b ≠ B) (hc : ∀ s, (o s).isCells = true) : OwnC D B (fun s W => W.heap[b]? = some (o s)) := fun s W W' row hs hg hr => by
  refine (hg.block b (Array.getElem?_eq_some_iff.1 hs).1 ?_).trans hs
  intro e
  rcases hr b e.symm with h | ⟨-, o', h, h'⟩
  · exact hne h
  · rw [hs] at h
    cases h
    rw [hc s] at h'; cases h'
/-- A variable that holds a slice of its own, made since the loop began. -/
theorem ownC_list {ob : Nat} {t e : TypeId} {sz : Nat} {nf : β → Nat} {xf : β → List Value} (hob : ob ≠ B) (hB : B < D) : OwnC D B (fun s W => ∃ v, W.heap[ob]? = some (.cells #[v] t) ∧ W.ownsRow D e sz v (nf s) (xf s)) := fun s W W' row ⟨v, h1, h2⟩ hg hr => by
  refine ⟨v, (hg.block ob (Array.getElem?_eq_some_iff.1 h1).1 (fun k => ?_)).trans h1, h2.kept hg ?_⟩
  · rcases hr ob k.symm with h | ⟨-, o', h, h'⟩
    · exact hob h
    · rw [h1] at h; cases h; cases h'
  · rcases h2.2 with ⟨k, -⟩ | ⟨g, cap, cur, k, hgD, hgb, -⟩
    · left; rw [k]; rfl
    · right
      rw [k]
      intro k2
      rcases hr g k2.symm with h | ⟨-, o', h, h'⟩
      · omega
      · rw [hgb] at h; cases h; cases h'
theorem ownC_below {n0 : Nat} {w : World} (h1 : n0 ≤ B) (h2 : n0 ≤ D) (h0 : n0 ≤ w.heap.size) : OwnC D B (fun (_ : β) W => Below n0 w W) := fun s W W' row hs hg hr =>
  hs.grown hg (Nat.le_trans h0 hs.size) (fun q hq => by rcases hr q hq with h | ⟨h, -⟩ <;> omega)
theorem ownC_size {m : Nat} : OwnC D B (fun (_ : β) W => m ≤ W.heap.size) := fun _ _ _ _ hs hg _ => Nat.le_trans hs hg.size
theorem below_put {n0 : Nat} {W : World} {l : Nat} {o : Obj} (o' : Obj) (h : n0 ≤ l) (hl : W.heap[l]? = some o) : Below n0 W (W.putObj l o') := by
  have := (Array.getElem?_eq_some_iff.1 hl).1
  exact (Below.refl n0 W).grown (grownBy_putObj' W l o') (by omega) (fun q hq => by cases hq; exact h)
end

/-- The loop. -/
theorem range_cell {α : Type} {F : Fence} {n : Nat} {P : Go.Program} {g : Operand} {ps : Array Tmp} {assign body : Code} {Q : Exit → Act → World → Prop} {a : Act} {w : World}
    (hro : F.round = none) (h1 : 1 ≤ n) {gf : Nat} {lb : Array Value} (hg : a.eval g = .func (.func gf) #[] lb) (hFg : F.fn gf) (eg : ∀ args w, (callFunc gf args).run P w = .ok (.enter gf args) w)
    {encs : α → Array Value} {Kp : World → World → Prop} {S Sp : List α → Prop} {N B : Nat} {w0 : World} (hB : B < w.heap.size) (hseq : SeqC F (n - 1) P gf lb encs Kp S Sp N B w0)
    (hKt : ∀ {A B C : World}, Kp A B → Kp B C → Kp A C) (hKb : ∀ (W : World) (l : Nat) (o o' : Obj), w.heap.size ≤ l → W.heap[l]? = some o → o.isCells = false → Kp W (W.putObj l o')) (hb0 : Below w0.heap.size w0 w) (hps : ∀ x, (encs x).size = ps.size)
    (I : List α → World → Prop) (Ix : Code → List α → World → Prop) (hI : OwnC w.heap.size B I) (hIx : ∀ c, OwnC w.heap.size B (Ix c)) (h0 : I [] w) (Ax : α → Act → World → Prop) (hAx : ∀ x a', OwnC w.heap.size B (fun (_ : Unit) W => Ax x a' W))
    (hassign : ∀ (l : Nat) (pre : List α) (x : α) (W : World) (K : Act → World → Prop), I pre W → (∀ a' W', KeepsFrom w.heap.size W W' → Kp W W' → I pre W' → Ax x a' W' → K a' W') →
      assign.wpIn (F.inRound l) (n - 1 - 1) P (Exit.then K (fun _ _ _ => False)) { tmps := (ps.zip (encs x)).foldl (fun t (p, v) => t.setIfInBounds p v) a.tmps, defers := [] } W)
    (hbody : ∀ (l : Nat) (pre : List α) (x : α) (a' : Act) (W : World), w.heap.size ≤ l → (∃ r, W.heap[l]? = some (.loop r)) → I pre W → Ax x a' W → pre.length < N → body.wpIn (F.inRound l) (n - 1 - 1) P (ownPostG w.heap.size Kp I Ix (pre ++ [x]) W) a' W)
    (hdone : ∀ (D : Nat) (xs : List α) (W : World), w.heap.size ≤ D → S xs → I xs W → W.heap[D]? = some (.deferred (some [])) → Q .normal { a with defers := { target := .collected D, args := #[] } :: a.defers } W)
    (hstop : ∀ (D : Nat) (c : Code) (pre : List α) (W : World), w.heap.size ≤ D → Sp pre → Ix c pre W → W.heap[D]? = some (.deferred (some [])) → c.wpIn F n P Q { a with defers := { target := .collected D, args := #[] } :: a.defers } W) :
    (Code.rangeFunc g ps assign body).wpIn F n P Q a w := by
  refine wpIn_rangeFunc fun fn hfn => ?_
  rw [hro]
  -- the two blocks of the loop's book-keeping
  let D := w.heap.size
  let lp : LoopState → Option Code → Loop := fun st pe => { state := st, pending := pe, fn, tmps := a.tmps, params := ps, assign, body, defers := w.heap.size }
  let W0 := (w.alloc (.deferred (some []))).alloc (.loop (lp .ready none))
  have size0 : (w.alloc (.deferred (some []))).heap.size = w.heap.size + 1 := World.size_alloc _ _
  have atL : W0.heap[w.heap.size + 1]? = some (.loop (lp .ready none)) := by
    have h := World.alloc_heap_new (w.alloc (.deferred (some []))) (.loop (lp .ready none))
    rwa [size0] at h
  have atD : W0.heap[w.heap.size]? = some (.deferred (some [])) := (Below.heap_alloc _ _ _ (by rw [size0]; omega)).trans (World.alloc_heap_new w _)
  have below0 : Below w0.heap.size w0 W0 := hb0.trans ((((Below.refl w.heap.size w).alloc (Nat.le_refl _) _).alloc (by rw [size0]; omega) _).mono hb0.size)
  -- what holds between two rounds; what holds when a round has said 'no more'
  let J : List α → World → Prop := fun pre W => I pre W ∧ W.heap[w.heap.size + 1]? = some (.loop (lp .ready none)) ∧ W.heap[w.heap.size]? = some (.deferred (some []))
  let Jx : List α → World → Prop := fun pre W => ∃ c, Ix c pre W ∧ W.heap[w.heap.size + 1]? = some (.loop (lp .done (some c))) ∧ W.heap[w.heap.size]? = some (.deferred (some []))
  have other : ∀ {A A' : World} {row : Option Nat} {k : Nat} {o : Obj}, A.grownBy A' row → (∀ r, row = some r → r = B) → w.heap.size ≤ k → A.heap[k]? = some o → A'.heap[k]? = some o := fun hg' hr hk ho =>
    (hg'.block _ (Array.getElem?_eq_some_iff.1 ho).1 (fun e => by have := hr _ e.symm; omega)).trans ho
  have hJ : AbidesC B J := fun s A A' row hs hg' hr => ⟨hI s A A' row hs.1 hg' (fun r e => .inl (hr r e)), other hg' hr (by omega) hs.2.1, other hg' hr (Nat.le_refl _) hs.2.2⟩
  have hJx : AbidesC B Jx := fun s A A' row hs hg' hr => by
    obtain ⟨c, hc, h2, h3⟩ := hs
    exact ⟨c, hIx c s A A' row hc hg' (fun r e => .inl (hr r e)), other hg' hr (by omega) h2, other hg' hr (Nat.le_refl _) h3⟩
  have hJ0 : J [] W0 := ⟨hI.fresh _ (hI.fresh _ h0), atL, atD⟩
  refine ⟨w.heap.size + 1, [{ target := .collected w.heap.size, args := #[] }], W0, { target := .fn (.func gf) lb, args := #[.func (.yield (w.heap.size + 1)) #[] #[]] }, W0, gf,
    #[.func (.yield (w.heap.size + 1)) #[] #[]] ++ lb, W0, run_enterLoop_outer _ _ _ _ _, by simp only [resolve, hg]; simp [go_sem], ?_, by simp [invoke, go_sem, eg], fun _ => h1, ?_⟩
  · intro f' hf'
    simp [Target.leads] at hf'
    subst hf'; exact hFg
  refine (hseq (w.heap.size + 1) J Jx W0 below0 hJ hJx ?_ hJ0).mono ?_
  · rintro pre x W ⟨hi, hl, hd⟩ hlen
    refine ⟨fn, _, assign, body, run_yield (P := P) (args := encs x) hl (hps x), roundIn_of_wpIn hfn (hassign _ pre x W _ hi ?_)⟩
    intro a' Wa kf kp ia ax
    have hla := kf.same _ _ (by omega) hl rfl
    have hda := kf.same _ _ (Nat.le_refl _) hd rfl
    have hlt := (Array.getElem?_eq_some_iff.1 hla).1
    refine ⟨_, run_beginRound hla rfl, ?_⟩
    have hlb : (Wa.putObj (w.heap.size + 1) (.loop { lp .ready none with state := .busy })).heap[w.heap.size + 1]? = some (.loop { lp .ready none with state := .busy }) := World.putObj_heap_same hlt
    have hdb : (Wa.putObj (w.heap.size + 1) (.loop { lp .ready none with state := .busy })).heap[w.heap.size]? = some (.deferred (some [])) := (World.putObj_heap_other (by omega)).trans hda
    have kb := hKb Wa _ _ (.loop { lp .ready none with state := .busy }) (by omega) hla rfl
    refine wpIn_mono (hbody _ pre x a' _ (by omega) ⟨_, hlb⟩ (hI.put _ ia (by omega) hla rfl) ((hAx x a').put (s := ()) _ ax (by omega) hla rfl) hlen) ?_
    -- a round has ended, by falling off its end or by a jump
    have fin : ∀ (jump : Option Code) (V : World), KeepsFrom w.heap.size (Wa.putObj (w.heap.size + 1) (.loop { lp .ready none with state := .busy })) V →
        (Instr.endRound (w.heap.size + 1) jump).run P V = .ok (.bool jump.isNone) (V.putObj (w.heap.size + 1) (.loop (lp (if jump.isNone then .ready else .done) jump))) ∧
        V.heap[w.heap.size + 1]? = some (.loop { lp .ready none with state := .busy }) ∧
        (V.putObj (w.heap.size + 1) (.loop (lp (if jump.isNone then .ready else .done) jump))).heap[w.heap.size + 1]? = some (.loop (lp (if jump.isNone then .ready else .done) jump)) ∧
        (V.putObj (w.heap.size + 1) (.loop (lp (if jump.isNone then .ready else .done) jump))).heap[w.heap.size]? = some (.deferred (some [])) := fun jump V kv => by
      have hv := kv.same _ _ (by omega) hlb rfl
      exact ⟨run_endRound (P := P) jump hv, hv, World.putObj_heap_same (Array.getElem?_eq_some_iff.1 hv).1, (World.putObj_heap_other (by omega)).trans (kv.same _ _ (Nat.le_refl _) hdb rfl)⟩
    have left : ∀ (c : Code) (V : World), KeepsFrom w.heap.size (Wa.putObj (w.heap.size + 1) (.loop { lp .ready none with state := .busy })) V → Ix c (pre ++ [x]) V →
        ∃ v V', (Instr.endRound (w.heap.size + 1) (some c)).run P V = .ok v V' ∧ v = .bool false ∧ Jx (pre ++ [x]) V' := fun c V kv iv => by
      obtain ⟨r1, r2, r3, r4⟩ := fin (some c) V kv
      exact ⟨_, _, r1, rfl, c, (hIx c).put _ iv (by omega) r2 rfl, r3, r4⟩
    rintro e a3 V hp
    match e, hp with
    | .normal, ⟨kv, kp3, iv⟩ =>
      obtain ⟨r1, r2, r3, r4⟩ := fin none V kv
      exact ⟨_, _, r1, .inl ⟨rfl, ⟨hI.put _ iv (by omega) r2 rfl, r3, r4⟩, hKt kp (hKt (hKt kb kp3) (hKb _ _ _ _ (by omega) r2 rfl))⟩⟩
    | .ret, ⟨kv, iv⟩ =>
      obtain ⟨v, V', r1, rfl, r3⟩ := left .ret V kv iv
      exact ⟨_, _, r1, .inr ⟨rfl, r3⟩⟩
    | .exit id, ⟨kv, iv⟩ =>
      obtain ⟨v, V', r1, rfl, r3⟩ := left (.exit id) V kv iv
      exact ⟨_, _, r1, .inr ⟨rfl, r3⟩⟩
    | .goto t, ⟨kv, iv⟩ =>
      obtain ⟨v, V', r1, rfl, r3⟩ := left (.goto t) V kv iv
      exact ⟨_, _, r1, .inr ⟨rfl, r3⟩⟩
  · rintro e V ⟨⟨v, rfl⟩, (⟨xs, hS, hi, hl, hd⟩ | ⟨pre, hSp, c, hi, hl, hd⟩)⟩
    · exact ⟨none, _, run_endLoop (P := P) hl (by simp [lp]), hdone _ xs _ (Nat.le_refl _) hS (hI.put _ hi (by omega) hl rfl) ((World.putObj_heap_other (by omega)).trans hd)⟩
    · exact ⟨some c, _, run_endLoop (P := P) hl (by simp [lp]), hstop _ c pre _ (Nat.le_refl _) hSp ((hIx c).put _ hi (by omega) hl rfl) ((World.putObj_heap_other (by omega)).trans hd)⟩
end Go.Proofs.Ytjciafpihdbedaa
end
section
/- classes.up: the iterator over a class and all above it. -/
namespace Go.Proofs.Ytjciafpihdbedaa
open Go.RowKit Go.Shelf
attribute [local go_sem] Oper.semAt_some

theorem idxB_spec {α : Type} (p : α → Bool) : ∀ (l : List α), 0 ≤ idxB p l → ∃ x, l[(idxB p l).toNat]? = some x ∧ p x = true
  | [], h => by unfold idxB at h; omega
  | y :: l, h => by
    have hge := idxB_ge p l
    unfold idxB at h ⊢
    by_cases hy : p y = true
    · rw [if_pos hy]; exact ⟨y, rfl, hy⟩
    · rw [if_neg hy] at h ⊢
      by_cases h1 : idxB p l = -1
      · rw [if_pos h1] at h; omega
      · rw [if_neg h1]
        obtain ⟨x, hx, hp⟩ := idxB_spec p l (by omega)
        refine ⟨x, ?_, hp⟩
        have e : (idxB p l + 1).toNat = (idxB p l).toNat + 1 := by omega
        rw [e]; simpa using hx
/-- Where a class of a name stands. -/
def findJ (cs : List Class) (name : ByteArray) : Option Nat := if 0 ≤ idxB (namedB name) cs then some (idxB (namedB name) cs).toNat else none
def superOf (cs : List Class) (j : Nat) : ByteArray := (cs[j]?.map (·.super)).getD ⟨#[]⟩
/-- A class and all above it: the round, the place. -/
def upX (cs : List Class) : Nat → Nat → ByteArray → List (Nat × Nat)
  | 0, _, _ => []
  | k + 1, m, name => match findJ cs name with
    | none => []
    | some j => (m, j) :: upX cs k (m + 1) (superOf cs j)
theorem upX_len (cs : List Class) : ∀ (k m : Nat) (name : ByteArray), (upX cs k m name).length ≤ k
  | 0, _, _ => Nat.le_refl _
  | k + 1, m, name => by
    unfold upX
    cases findJ cs name with
    | none => simp
    | some j => have := upX_len cs k (m + 1) (superOf cs j); simp; omega

/-- A round and the place of a class. -/
abbrev CI (cs : List Class) := { x : Nat × Nat // ∃ c, cs[x.2]? = some c }
def vals {cs : List Class} (l : List (CI cs)) : List (Nat × Nat) := l.map (·.1)
theorem vals_snoc {cs : List Class} (l : List (CI cs)) (x : CI cs) : vals (l ++ [x]) = vals l ++ [x.1] := by simp [vals]
/-- What a round that goes on leaves as it was. -/
def KpUp (n0 b1 b2 : Nat) (W W' : World) : Prop := Below n0 W W' ∧ W'.heap[b1]? = W.heap[b1]? ∧ W'.heap[b2]? = W.heap[b2]?
theorem KpUp.trans {n0 b1 b2 : Nat} {A B C : World} (h : KpUp n0 b1 b2 A B) (k : KpUp n0 b1 b2 B C) : KpUp n0 b1 b2 A C := ⟨h.1.trans k.1, k.2.1.trans h.2.1, k.2.2.trans h.2.2⟩

set_option maxRecDepth 100000 in
set_option maxHeartbeats 4000000 in
theorem up1_in (n : Nat) (hn : 1 ≤ n) (l n0 b1 b2 d : Nat) (cv mv : Value) (cs : List Class) (name : ByteArray) (hlen : cs.length ≤ 1000000000) (enc : Nat → Array Value) (J Jx : List (CI cs) → World → Prop)
    (hJ : AbidesC b2 J) (h12 : b1 ≠ b2) (h02 : n0 ≤ b2)
    (hY : ∀ pre (x : CI cs) W, J pre W → pre.length < cs.length + 1 → YieldAt Fence.wide (n - 1) Try.prog l #[.int .i64 (x.1.1 : Int), .agg (enc x.1.2)] W fun e W' =>
      (e = .returned (.bool true) ∧ J (pre ++ [x]) W' ∧ KpUp n0 b1 b2 W W') ∨ (e = .returned (.bool false) ∧ Jx (pre ++ [x]) W'))
    (W : World) (hb1 : W.heap[b1]? = some (.cells #[cv, mv] 25)) (hb2 : W.heap[b2]? = some (.cells #[.string name] 9))
    (hR : RClasses d W (· < n0) cv cs) (hn0 : n0 ≤ W.heap.size)
    (henc : ∀ j c, cs[j]? = some c → ∃ a off k cap fv mv', cv = .slice (some ⟨a, off, none⟩) k cap ∧ a < n0 ∧ enc j = #[.string c.name, .string c.super, fv, mv'] ∧ cellsAt W a (off + j * 4) [.string c.name, .string c.super, fv, mv']) (h0 : J [] W) :
    CallsIn Fence.wide n Try.prog 57 #[.func (.yield l) #[] #[], .pointer (some ⟨b1, 0, none⟩), .pointer (some ⟨b2, 0, none⟩)] W fun e W' => (∃ v, e = .returned v) ∧
      ((∃ ys, vals ys = upX cs (cs.length + 1) 0 name ∧ J ys W') ∨ (∃ pre, vals pre <+: upX cs (cs.length + 1) 0 name ∧ Jx pre W')) := by
  have HR := Lib.hid hR
  obtain ⟨a, N, cap, rfl, hN, -, -, -⟩ := hR
  have HN := Lib.hid hN
  have HENC := Lib.hid henc
  have HY := Lib.hid hY
  have HJ := Lib.hid hJ
  have HB1 := Lib.hid hb1
  have HB2 := Lib.hid hb2
  have hNl : N ≤ 1000000000 := by omega
  have c1 : W.cell? ⟨b1, 0, none⟩ = some (.slice a N cap) := by simp [World.cell?, hb1]
  clear hN henc hY hJ hb1 hb2
  refine callsIn_of_wp Try.func57 rfl trivial ?_ rfl
  simp only [Try.ntmps57, List.size_toArray, List.length_cons, List.length_nil, Nat.reduceAdd, Nat.reduceSub, Array.replicate_succ, Array.replicate_zero, List.push_toArray, List.append_toArray, List.nil_append, List.cons_append]
  gi_wp2
  gi_loopw [10] (fun v10 wr => ∃ (m : Nat) (pre : List (CI cs)) (cur : ByteArray), m ≤ N + 1 ∧ v10 = .int .i64 m ∧ Hid (pre.length = m) ∧ Hid (upX cs (cs.length + 1) 0 name = vals pre ++ upX cs (N + 1 - m) m cur) ∧ Hid (J pre wr) ∧ Hid (Below n0 W wr) ∧ Hid (wr.heap[b1]? = some (.cells #[.slice a N cap, mv] 25)) ∧ Hid (wr.heap[b2]? = some (.cells #[.string cur] 9))) (fun v10 _ => N + 1 - (intOf v10).toNat)
  case atStart => exact ⟨0, [], name, by omega, rfl, rfl, by rw [HN.out]; rfl, h0, Below.refl _ _, HB1.out, HB2.out⟩
  case round =>
    obtain ⟨m, pre, cur, hm, rfl, HPL, HPX, HJP, HB, HC1, HC2⟩ := hrel
    have d1 : wr.cell? ⟨b1, 0, none⟩ = some (.slice a N cap) := by simp [World.cell?, HC1.out]
    have d2 : wr.cell? ⟨b2, 0, none⟩ = some (.string cur) := by simp [World.cell?, HC2.out]
    have d3 : wr.frozen? ⟨b2, 0, none⟩ = false := by simp [World.frozen?, HC2.out]
    by_cases hmN : m < N + 1
    · have HRW : Hid (RClasses d wr (· < wr.heap.size) (.slice a N cap) cs) := HR.out.mono (fun b hb => Nat.lt_of_lt_of_le hb (Nat.le_trans hn0 HB.out.size)) (fun b hb => HB.out.block b hb)
      gi_wp2_with fail
      refine ⟨trivial, (callsIn_wide.2 (indexNamed d (.slice a N cap) cs cur b2 wr HRW.out d2)).mono ?_⟩
      rintro e w2 ⟨rfl, hb⟩
      have HB2 : Hid (Below n0 W w2) := HB.out.trans (hb.mono (Nat.le_trans hn0 HB.out.size))
      have hl1 : b1 < wr.heap.size := (Array.getElem?_eq_some_iff.1 HC1.out).1
      have hl2 : b2 < wr.heap.size := (Array.getElem?_eq_some_iff.1 HC2.out).1
      have HD1 : Hid (w2.heap[b1]? = some (.cells #[.slice a N cap, mv] 25)) := (hb.block b1 hl1).trans HC1.out
      have HD2 : Hid (w2.heap[b2]? = some (.cells #[.string cur] 9)) := (hb.block b2 hl2).trans HC2.out
      have HJ2 : Hid (J pre w2) := HJ.out pre wr w2 none HJP.out ⟨hb.os, hb.tape, hb.output, hb.size, fun k hk _ => hb.block k hk⟩ (fun r e => by cases e)
      have e1 : w2.cell? ⟨b1, 0, none⟩ = some (.slice a N cap) := by simp [World.cell?, HD1.out]
      have e2 : w2.cell? ⟨b2, 0, none⟩ = some (.string cur) := by simp [World.cell?, HD2.out]
      have hk : N + 1 - m = (N - m) + 1 := by omega
      rw [hk] at HPX
      clear d1 d2 d3 hb HC1 HC2 HJP HB HRW hk
      by_cases hi : 0 ≤ idxB (namedB cur) cs
      · obtain ⟨c, hc, hnm⟩ := idxB_spec _ _ hi
        obtain ⟨j, hj⟩ : ∃ j : Nat, idxB (namedB cur) cs = j := ⟨(idxB (namedB cur) cs).toNat, by omega⟩
        have hfj : findJ cs cur = some j := by unfold findJ; rw [if_pos hi, hj]; simp
        rw [hj, Int.toNat_natCast] at hc
        have hjN : j < N := by rw [← HN.out]; exact (List.getElem?_eq_some_iff.1 hc).1
        have hsup : superOf cs j = c.super := by unfold superOf; rw [hc]; rfl
        obtain ⟨a', off, k', cap', fv, mv', ecv, ha', henc, hcl⟩ := HENC.out j c hc
        simp only [Value.slice.injEq] at ecv
        obtain ⟨rfl, rfl, rfl⟩ := ecv
        have HX : Hid (upX cs (cs.length + 1) 0 name = vals (pre ++ [⟨(m, j), c, hc⟩]) ++ upX cs (N + 1 - (m + 1)) (m + 1) c.super) := by
          show _ = _
          have e3 : N + 1 - (m + 1) = N - m := by omega
          rw [HPX.out, e3, vals_snoc]
          conv => lhs; rw [upX]
          rw [hfj]
          simp [hsup]
        obtain ⟨fn, tmps, assign, body, hy, hR⟩ := HY.out pre ⟨(m, j), c, hc⟩ w2 HJ2.out (by rw [HPL.out, HN.out]; omega)
        dsimp only at hy
        rw [henc] at hy
        have hcl2 := cellsAt_of_block (HB2.out.block a' ha') hcl
        obtain ⟨f0, f1, f2, f3, -⟩ := hcl2
        rw [hj]
        have HCJ := Lib.hid hc
        clear hnm hi hfj hsup henc hcl
        gi_wp2
        refine hR.mono ?_
        rintro e W3 (⟨rfl, hJ3, hk3⟩ | ⟨rfl, hJx3⟩)
        · have HB3 : Hid (Below n0 W W3) := HB2.out.trans hk3.1
          have HE1 : Hid (W3.heap[b1]? = some (.cells #[.slice (some ⟨a', off, none⟩) N cap, mv] 25)) := hk3.2.1.trans HD1.out
          have HE2 : Hid (W3.heap[b2]? = some (.cells #[.string cur] 9)) := hk3.2.2.trans HD2.out
          have g1 : W3.cell? ⟨b1, 0, none⟩ = some (.slice (some ⟨a', off, none⟩) N cap) := by simp [World.cell?, HE1.out]
          have g2 : W3.cell? ⟨b2, 0, none⟩ = some (.string cur) := by simp [World.cell?, HE2.out]
          have g3 : W3.frozen? ⟨b2, 0, none⟩ = false := by simp [World.frozen?, HE2.out]
          have g4 := (HB3.out.cell (p := ⟨a', off + j * 4 + 1, none⟩) ha').trans (HENC.out j c HCJ.out |> fun ⟨_, _, _, _, _, _, e, _, _, k⟩ => by
            simp only [Value.slice.injEq, Option.some.injEq, Addr.mk.injEq, and_true] at e
            obtain ⟨⟨rfl, rfl⟩, rfl, rfl⟩ := e
            exact k.2.1)
          have HJ3 : Hid (J (pre ++ [⟨(m, j), c, HCJ.out⟩]) (W3.setCell ⟨b2, 0, none⟩ (.string c.super))) := HJ.out _ W3 _ (some b2) hJ3 ⟨rfl, rfl, rfl, by show _ ≤ (W3.heap.modify _ _).size; rw [Array.size_modify]; exact Nat.le_refl _, fun q _ hne => Below.heap_setCell W3 _ _ q (fun e => hne (by rw [e]))⟩ (fun r e => by cases e; rfl)
          have HF1 : Hid ((W3.setCell ⟨b2, 0, none⟩ (.string c.super)).heap[b1]? = some (.cells #[.slice (some ⟨a', off, none⟩) N cap, mv] 25)) := (Below.heap_setCell W3 _ _ b1 h12).trans HE1.out
          have HF2 : Hid ((W3.setCell ⟨b2, 0, none⟩ (.string c.super)).heap[b2]? = some (.cells #[.string c.super] 9)) := by
            show (W3.heap.modify b2 _)[b2]? = _
            rw [Array.getElem?_modify, if_pos rfl, HE2.out]; rfl
          have HF3 : Hid (Below n0 W (W3.setCell ⟨b2, 0, none⟩ (.string c.super))) := HB3.out.setCell h02 _
          clear hk3 hJ3 HE1 HE2 HB3
          gi_wp2
          go_roundw
          case rel => exact ⟨m + 1, pre ++ [⟨(m, j), c, HCJ.out⟩], c.super, by omega, by go_num, by show _ = _; rw [List.length_append, HPL.out]; rfl, HX, HJ3, HF3, HF1, HF2⟩
          case measure => simp [intOf]; omega
        · gi_wp2
          refine bodyPost_ret (results_none rfl _ _ _) rfl ?_
          exact ⟨⟨_, rfl⟩, .inr ⟨_, ⟨_, HX.out.symm⟩, hJx3⟩⟩
      · have hi2 : idxB (namedB cur) cs < 0 := by omega
        have HX : Hid (upX cs (cs.length + 1) 0 name = vals pre) := by
          show _ = _
          rw [HPX.out]
          conv => lhs; rw [upX]
          unfold findJ
          rw [if_neg hi]; simp
        generalize idxB (namedB cur) cs = i at *
        clear hi
        gi_wp2
        refine ⟨fun _ h => (by cases h), ?_⟩
        gi_wp2
        refine bodyPost_ret (results_none rfl _ _ _) rfl ?_
        exact ⟨⟨_, rfl⟩, .inl ⟨_, HX.out.symm, HJ2.out⟩⟩
    · obtain rfl : m = N + 1 := by omega
      have HX : Hid (upX cs (cs.length + 1) 0 name = vals pre) := by
        show _ = _
        have e3 : N + 1 - (N + 1) = 0 := by omega
        rw [HPX.out, e3, upX, List.append_nil]
      gi_wp2
      go_end0
      exact ⟨⟨_, rfl⟩, .inl ⟨_, HX.out.symm, HJP.out⟩⟩

/-- up hands back a closure over the two boxes. -/
theorem up_any (cv mv : Value) (name : ByteArray) (w : World) :
    Calls Try.prog 33 #[.agg #[cv, mv], .string name] w fun e w' => e = .returned (.func (.func 57) #[] #[.pointer (some ⟨w.heap.size, 0, none⟩), .pointer (some ⟨w.heap.size + 1, 0, none⟩)]) ∧ w' = (w.alloc (.cells #[cv, mv] 25)).alloc (.cells #[.string name] 9) := by
  go_enter Try.func33, Try.ntmps33
  go_wp2
  go_ret
  exact ⟨rfl, rfl⟩
/-- The cells of the classes, as values. -/
def EncCls (d : Nat) (W : World) (n0 : Nat) (cv : Value) (cs : List Class) (enc : Nat → Array Value) : Prop :=
  ∀ j c, cs[j]? = some c → RClass d W (· < n0) (enc j).toList c ∧ ∃ a off k cap fv mv', cv = .slice (some ⟨a, off, none⟩) k cap ∧ a < n0 ∧ enc j = #[.string c.name, .string c.super, fv, mv'] ∧ cellsAt W a (off + j * 4) [.string c.name, .string c.super, fv, mv']
theorem enc_exists {d n0 : Nat} {W : World} {cv : Value} {cs : List Class} (h : RClasses d W (· < n0) cv cs) : ∃ enc, EncCls d W n0 cv cs enc := by
  obtain ⟨a, n, cap, rfl, hn, -, -, hel⟩ := h
  have : ∀ j, ∃ v : Array Value, ∀ c, cs[j]? = some c → RClass d W (· < n0) v.toList c ∧ ∃ a' off k cap' fv mv', Value.slice a n cap = .slice (some ⟨a', off, none⟩) k cap' ∧ a' < n0 ∧ v = #[.string c.name, .string c.super, fv, mv'] ∧ cellsAt W a' (off + j * 4) [.string c.name, .string c.super, fv, mv'] := by
    intro j
    cases hc : cs[j]? with
    | none => exact ⟨#[], fun c h => by cases h⟩
    | some c =>
      obtain ⟨b, off, l, rfl, hb, hcl, fv, mv, rfl, hrest⟩ := hel j c hc
      refine ⟨#[.string c.name, .string c.super, fv, mv], fun c' h => ?_⟩
      cases h
      exact ⟨⟨fv, mv, rfl, hrest⟩, b, off, n, cap, fv, mv, rfl, hb, rfl, hcl⟩
  exact ⟨fun j => Classical.choose (this j), fun j c hc => Classical.choose_spec (this j) c hc⟩
theorem up_seq (n : Nat) (hn : 1 ≤ n) (n0 b1 b2 d : Nat) (cv mv : Value) (cs : List Class) (name : ByteArray) (hlen : cs.length ≤ 1000000000) (enc : Nat → Array Value) (h12 : b1 ≠ b2) (h02 : n0 ≤ b2) (w : World)
    (hb1 : w.heap[b1]? = some (.cells #[cv, mv] 25)) (hb2 : w.heap[b2]? = some (.cells #[.string name] 9)) (hR : RClasses d w (· < n0) cv cs) (hn0 : n0 ≤ w.heap.size) (henc : EncCls d w n0 cv cs enc) :
    SeqC Fence.wide n Try.prog 57 #[.pointer (some ⟨b1, 0, none⟩), .pointer (some ⟨b2, 0, none⟩)] (fun x : CI cs => #[.int .i64 (x.1.1 : Int), .agg (enc x.1.2)]) (KpUp n0 b1 b2) (fun ys => vals ys = upX cs (cs.length + 1) 0 name) (fun pre => vals pre <+: upX cs (cs.length + 1) 0 name) (cs.length + 1) b2 w := fun l J Jx W hW hJ _ hY h0 => by
  have l1 := (Array.getElem?_eq_some_iff.1 hb1).1
  have l2 := (Array.getElem?_eq_some_iff.1 hb2).1
  refine up1_in n hn l n0 b1 b2 d cv mv cs name hlen enc J Jx hJ h12 h02 hY W ((hW.block b1 l1).trans hb1) ((hW.block b2 l2).trans hb2) (hR.mono (fun _ h => h) (fun b h => hW.block b (Nat.lt_of_lt_of_le h hn0))) (Nat.le_trans hn0 hW.size) (fun j c hc => ?_) h0
  obtain ⟨-, a, off, k, cap, fv, mv', h1, h2, h3, h4⟩ := henc j c hc
  exact ⟨a, off, k, cap, fv, mv', h1, h2, h3, cellsAt_of_block (hW.block a (Nat.lt_of_lt_of_le h2 hn0)) h4⟩
theorem EncCls.shapes {d : Nat} {W : World} {n0 : Nat} {cv : Value} {cs : List Class} {enc : Nat → Array Value} (h : EncCls d W n0 cv cs enc) {j : Nat} {c : Class} (hc : cs[j]? = some c) :
    ∃ fa fl fc ma ml mc, enc j = #[.string c.name, .string c.super, .slice fa fl fc, .slice ma ml mc] ∧ RSlots W (· < n0) (.slice fa fl fc) c.fields ∧ RMethods d W (· < n0) (.slice ma ml mc) c.methods := by
  obtain ⟨⟨fv, mv, e, -, -, hf, hm⟩, -⟩ := h j c hc
  obtain ⟨fa, fl, fc, rfl⟩ := RSl.shape hf
  obtain ⟨ma, ml, mc, rfl⟩ := RSl.shape hm
  exact ⟨fa, fl, fc, ma, ml, mc, by rw [← Array.toList_inj]; exact e, hf, hm⟩
end Go.Proofs.Ytjciafpihdbedaa
end
section
/- A region that draws its order, inside a round: what the plain calculus shows of it holds there too. -/
namespace Go.Proofs.Ytjciafpihdbedaa
open Go.RowKit Go

/-- No operation is a defer statement. -/
def noDefer (ops : Array Oper) : Bool := ops.all fun o => match o.op with | .defer _ => false | _ => true
theorem noDefer_spec {ops : Array Oper} (h : noDefer ops = true) {i : Nat} {o : Oper} (hi : ops[i]? = some o) (c : Call) : o.op ≠ .defer c := by
  intro e
  have hm := Array.all_eq_true'.1 h o (Array.mem_of_getElem? hi)
  rw [e] at hm
  cases hm
section
variable {P : Go.Program} {l n : Nat} {ops : Array Oper} {Q : Exit → Act → World → Prop} {md : Region.Mode}
theorem rows_round {row : String} {args : Array Value} {w : World} {R : Value → World → Prop} (h : Rows P row args w R) : RowsIn (Fence.wide.inRound l) n P row args w R :=
  fun c cs _ => let ⟨v, w', r, s⟩ := h c cs; ⟨v, w', r, stepsIn_wide.2 s⟩
theorem oper_round {o : Oper} {a : Act} {w : World} {K : Act → World → Prop} (hd : ∀ c, o.op ≠ .defer c) (h : o.wp P a w K Q) : o.wpIn (Fence.wide.inRound l) n P a w K Q := by
  unfold Oper.wp at h
  unfold Oper.wpIn
  refine ⟨fun _ _ => trivial, ?_⟩
  rw [Fence.inRound_round, Oper.semAt_some l a.eval o hd]
  generalize (execOp a.eval o).run P w = r at *
  cases r with
  | ok x w' =>
    cases x with
    | value v => exact h
    | skip => exact h
    | defer d => exact h
    | enter f args => exact ⟨fun k => (by cases k), (callsIn_wide (n := n - 1)).2 h⟩
    | row row args => exact ⟨fun k => (by cases k), rows_round h⟩
    | _ => exact h.elim
  | halt x w' => cases x <;> first | exact h | exact h.elim
theorem wpOp_round {i : Nat} {a : Act} {w : World} {K : Act → World → Prop} (hL : ¬ LetsOut Q) (hd : noDefer ops = true) (h : wpOp P ops Q i K a w) : wpOpIn (Fence.wide.inRound l) n P ops Q i K a w := by
  unfold wpOp at h
  unfold wpOpIn
  cases hi : ops[i]? with
  | none => simp only [hi] at h ⊢; exact h
  | some o =>
    simp only [hi] at h ⊢
    split
    · rename_i hw; simp only [hw, if_true] at h; exact oper_round (noDefer_spec hd hi) (h.resolve_right fun k => hL k.2)
    · rename_i hw; simp only [hw] at h; exact ⟨fun _ _ => trivial, h⟩
theorem wpAny_round (hL : ¬ LetsOut Q) (hd : noDefer ops = true) : ∀ (f : Nat) (listed : Array Bool) (a : Act) (w : World), wpAny P md ops Q f listed a w → wpAnyIn (Fence.wide.inRound l) n P md ops Q f listed a w
  | 0, _, _, _, h => h
  | f + 1, _, _, _, h => ⟨h.1, fun i hi => wpOpIn_mono (fun a' w' h' => wpAny_round hL hd f _ a' w' h') (wpOp_round hL hd (h.2 i hi))⟩
theorem region_round {id : Nat} {a : Act} {w : World} (hL : ¬ LetsOut Q) (hm : P.follows .mixedOrders = true) (hd : noDefer ops = true)
    (h : wpAny P .any ops Q ops.size (Array.replicate ops.size false) a { w with drawn := w.drawn + 1 }) : (Code.region id ops true).wpIn (Fence.wide.inRound l) n P Q a w :=
  wpIn_region_any hm (wpAny_round hL hd _ _ _ _ h)
/-- .. where nobody writes what is read: whatever the callees make. -/
theorem region_round_quiet {id : Nat} {a : Act} {w : World} {ol : List Oper} {C : World → Prop} (hL : ¬ LetsOut Q) (hm : P.follows .mixedOrders = true) (hd : noDefer ol.toArray = true) (hB : Region.lexB .any ol.toArray = true) (hC : C { w with drawn := w.drawn + 1 })
    (h : wpQuiet P ol.toArray C (fun a' => ∀ w', C w' → Q .normal a' w') ol a) : (Code.region id ol.toArray true).wpIn (Fence.wide.inRound l) n P Q a w := by
  simp only [Region.lexB, Bool.and_eq_true] at hB
  refine region_round hL hm hd (wpAny_of_quiet (Q := fun a' => ∀ w', C w' → Q .normal a' w') (fun _ w' hw' h => h w' hw') _ _ _ _ hC ?_)
  have := wpAnyQ_lex (C := C) (md := .any) hB.1 ol 0 (Array.replicate ol.toArray.size false) a (by simp) (by simpa using hB.2) h
  simpa using this
/-- .. where what is read first is held by S. -/
theorem region_round_held {id : Nat} {a : Act} {w : World} {S : World → Prop} (hL : ¬ LetsOut Q) (hm : P.follows .mixedOrders = true) (hd : noDefer ops = true)
    (h : wpAnyH P .any ops Q S ops.size (Array.replicate ops.size false) a { w with drawn := w.drawn + 1 }) : (Code.region id ops true).wpIn (Fence.wide.inRound l) n P Q a w :=
  region_round hL hm hd (wpAny_of_held _ _ _ _ h)
end
end Go.Proofs.Ytjciafpihdbedaa
end
section
/- The walk over plain data inside a round of a loop over an iterator. -/
namespace Go.Proofs.Ytjciafpihdbedaa
namespace V
open Go.RowKit

section
variable {P : Go.Program} {T : Tab} {base : Nat} {ops : Array Oper} (hT : T.Ok P) {R : Ref} {w : World} {n : Nat} {ds : List Deferred} {l n' : Nat}
include hT
theorem plain_round (hd : ∀ o ∈ ops, ∀ d, o.dst = some d → d < n) (hnd : noDefer ops = true) {Q : Exit → Act → World → Prop} {st' : St} (hQ : ∀ a w, SR R n ds st' a w → Q .normal a w) :
    ∀ (L : List Nat) (st : St) (a : Act) (w : World), Chain P T R.keep base ops L st st' → SR R n ds st a w → wpOpsIn (Fence.wide.inRound l) n' P ops Q L a w
  | [], st, a, w, h, hr => by cases h; exact hQ a w hr
  | i :: L, st, a, w, h, hr => by
    cases h with
    | @cons _ o _ _ st1 _ hi h1 t =>
      unfold wpOpsIn
      simp only [hi]
      have hgo := h1.snd hT hr (hd o (Array.mem_of_getElem? hi)) (K := wpOpsIn (Fence.wide.inRound l) n' P ops Q L) (Q := Q) (fun a' w' hr' => plain_round hd hnd hQ L st1 a' w' t hr')
      split
      · rename_i hw; rw [if_pos hw] at hgo; exact oper_round (noDefer_spec hnd hi) hgo
      · rename_i hw; rw [if_neg hw] at hgo; exact ⟨fun _ _ => trivial, hgo⟩
end

/-- The walk from a state, inside a round. -/
def WI (l n' : Nat) (P : Go.Program) (R : Ref) (n : Nat) (ds : List Deferred) (st : St) (c : Code) (K : Exit → St → Prop) : Prop :=
  ∀ a w, SR R n ds st a w → c.wpIn (Fence.wide.inRound l) n' P (fun e a' w' => ∃ st', K e st' ∧ SR R n ds st' a' w') a w
section
variable {l n' : Nat} {P : Go.Program} {T : Tab} {R : Ref} {n : Nat} {ds : List Deferred} {st : St} {K : Exit → St → Prop}
theorem WI.mono {c : Code} {K' : Exit → St → Prop} (h : WI l n' P R n ds st c K) (hk : ∀ e st', K e st' → K' e st') : WI l n' P R n ds st c K' :=
  fun a w hr => wpIn_mono (h a w hr) fun e _ _ ⟨st', h1, h2⟩ => ⟨st', hk e st' h1, h2⟩
theorem WI.region (hT : T.Ok P) (base : Nat) {id : Nat} {ops : Array Oper} {st' : St} (hd : dstOk n ops = true) (hnd : noDefer ops = true) (h : RunL P T R.keep base ops ops.toList st st') (hk : K .normal st') : WI l n' P R n ds st (.region id ops false) K := fun a w hr =>
  wpIn_region (plain_round hT (dstOk_spec hd) hnd (fun a w hr' => ⟨st', hk, hr'⟩) _ st a w (by rw [range_range']; have := h.chain (k := 0) (by simp); simpa using this) hr)
theorem WI.regionD (hT : T.Ok P) (base : Nat) {id : Nat} {ops : Array Oper} {st' : St} (hm : P.follows .mixedOrders = true) (hok : okRegion T ops = true) (hd : dstOk n ops = true) (hnd : noDefer ops = true) (h : RunL P T R.keep base ops ops.toList st st') (hk : K .normal st') : WI l n' P R n ds st (.region id ops true) K := fun a w hr => by
  refine wpIn_mono (Q := fun e a w => e = .normal ∧ SR R n ds st' a w) (region_round (fun ⟨_, _, h, _⟩ => by cases h) hm hnd (any_snd hT hok (dstOk_spec hd) (fun a w hr' => ⟨rfl, hr'⟩) _ _ (List.range ops.size) st a _ (by simp) (by simp) (List.pairwise_lt_range) (fun i => ?_) (fun k o ho hl => ?_) ?_ (by rw [range_range']; have := h.chain (k := 0) (by simp); simpa using this))) fun e a w h => ⟨st', h.1 ▸ hk, h.2⟩
  · rw [List.mem_range]
    refine ⟨fun hi => ⟨hi, ?_⟩, fun hi => hi.1⟩
    simp [hi]
  · exfalso
    have hk := (Array.getElem?_eq_some_iff.1 ho).1
    simp [hk] at hl
  · obtain ⟨⟨B, I, hmr, hx0, hkp, hs⟩, h2, h3, hnn, h4, h5⟩ := hr
    have hE : Ext w w.drew I I := ⟨fun _ _ k => k, fun _ _ _ => rfl⟩
    exact ⟨⟨B, I, hmr.call (Below.refl _ _).drew, hx0.trans hE, hkp, fun t => (hs t).mono hE fun _ _ => rfl⟩, h2, h3, hnn, h4, h5⟩
theorem WI.seq {x y : Code} (h : WI l n' P R n ds st x (thenK (fun st' => WI l n' P R n ds st' y K) K)) : WI l n' P R n ds st (.seq x y) K := fun a w hr =>
  wpIn_seq (wpIn_mono (h a w hr) fun e a' w' ⟨st', h1, h2⟩ => by
    cases e with
    | normal => exact h1 a' w' h2
    | _ => exact ⟨st', h1, h2⟩)
theorem WI.cond {c : Operand} {x y : Code} {b : Bool} (hc : ev st.s c = .c (.bool b)) (ht : b = true → WI l n' P R n ds st x K) (hf : b = false → WI l n' P R n ds st y K) : WI l n' P R n ds st (.cond c x y) K := fun a w hr => by
  obtain ⟨B, I, hm, -, -, hs⟩ := hr.ex
  have := ev_rv hs c
  rw [hc] at this
  exact wpIn_cond_split (RC.toBool this) (fun e => ht e a w hr) (fun e => hf e a w hr)
theorem WI.block {id : Nat} {c : Code} (h : WI l n' P R n ds st c (blockK id K)) : WI l n' P R n ds st (.block id c) K := fun a w hr =>
  wpIn_block (wpIn_mono (h a w hr) fun e a' w' ⟨st', h1, h2⟩ => by
    cases e with
    | exit j =>
      simp only [blockK, Exit.inBlock] at h1 ⊢
      split
      · rename_i e; rw [if_pos e] at h1; exact ⟨st', h1, h2⟩
      · rename_i e; rw [if_neg e] at h1; exact ⟨st', h1, h2⟩
    | _ => exact ⟨st', h1, h2⟩)
theorem WI.exit {id : Nat} (h : K (.exit id) st) : WI l n' P R n ds st (.exit id) K := fun _ _ hr => wpIn_exit ⟨st, h, hr⟩
theorem WI.ret (h : K .ret st) : WI l n' P R n ds st .ret K := fun _ _ hr => wpIn_ret ⟨st, h, hr⟩
theorem WI.skip (h : K .normal st) : WI l n' P R n ds st .skip K := fun _ _ hr => wpIn_skip ⟨st, h, hr⟩
theorem WI.weakenT {τ : Nat → Nat} {st' : St} {c : Code} (hl : LeT τ R.keep st st') (h : WI l n' P R n ds st' c K) : WI l n' P R n ds st c K := fun a w hr => h a w (hr.leT hl)
theorem WI.weaken {st' : St} {c : Code} (hl : Le R.keep st st') (h : WI l n' P R n ds st' c K) : WI l n' P R n ds st c K := fun a w hr => h a w (hr.le hl)
/-- A loop: what holds of the state at its head, by an index that goes down. -/
theorem WI.loop {ι : Type} {c : Code} (mk : ι → St) (Inv : ι → Prop) (μ : ι → Nat) (i0 : ι) (hl : Le R.keep st (mk i0)) (h0 : Inv i0)
    (hround : ∀ i, Inv i → WI l n' P R n ds (mk i) c (thenK (fun st' => ∃ i', Inv i' ∧ μ i' < μ i ∧ Le R.keep st' (mk i')) K)) : WI l n' P R n ds st (.loop c) K := by
  refine WI.weaken hl ?_
  intro a w hr
  refine wpIn_loop_ghost (fun k a w => ∃ i, Inv i ∧ μ i = k ∧ SR R n ds (mk i) a w) (μ i0) ⟨i0, h0, rfl, hr⟩ ?_
  rintro k a w ⟨i, hi, rfl, hr⟩
  refine wpIn_mono (hround i hi a w hr) ?_
  rintro e a' w' ⟨st', h1, h2⟩
  cases e with
  | normal =>
    obtain ⟨i', hi', hlt, hle⟩ := h1
    exact ⟨μ i', hlt, i', hi', rfl, h2.le hle⟩
  | _ => exact ⟨st', h1, h2⟩
theorem WI.regionK (hT : T.Ok P) (base : Nat) {id : Nat} {ops : Array Oper} (hd : dstOk n ops = true) (hnd : noDefer ops = true) (h : RunK P T R.keep base ops ops.toList st (K .normal)) : WI l n' P R n ds st (.region id ops false) K :=
  let ⟨_, h1, h2⟩ := h
  WI.region hT base hd hnd h1 h2
theorem WI.regionDK (hT : T.Ok P) (base : Nat) {id : Nat} {ops : Array Oper} (hm : P.follows .mixedOrders = true) (hok : okRegion T ops = true) (hd : dstOk n ops = true) (hnd : noDefer ops = true) (h : RunK P T R.keep base ops ops.toList st (K .normal)) : WI l n' P R n ds st (.region id ops true) K :=
  let ⟨_, h1, h2⟩ := h
  WI.regionD hT base hm hok hd hnd h1 h2
end
end V
end Go.Proofs.Ytjciafpihdbedaa
end
section
/- Blocks of book-keeping as pieces of memory: laid, and turned. -/
namespace Go.Proofs.Ytjciafpihdbedaa
namespace V
open Go.RowKit
section
variable {w0 w w' : World} {I0 I : Nat → Nat → Prop} {B : Nat → Value} {mem : Mem}
/-- A new block of book-keeping. -/
theorem MR.newRaw (h : MR w0 I0 B I mem w) {id : Nat} (hid : mem id = none) (x : Obj) :
    MR w0 I0 (upd B id (.pointer (some ⟨w.heap.size, 0, none⟩))) I (upd mem id (some (.raw x))) (w.alloc x) :=
  h.alloc hid ⟨w.heap.size, upd_same .., heap_alloc_new _ _, fun p hp => by have := h.there _ _ hp; omega⟩ (fun k hk => by
    obtain ⟨off, hk⟩ := hk
    rw [upd_same] at hk
    cases hk; rfl) (fun j hj => by simp [O.ids] at hj)
/-- A block of book-keeping turns. -/
theorem MR.putRaw (h : MR w0 I0 B I mem w) {id b : Nat} {x : Obj} (hid : mem id = some (.raw x)) (hB : B id = .pointer (some ⟨b, 0, none⟩)) (y : Obj) :
    MR w0 I0 B I (upd mem id (some (.raw y))) (w.putObj b y) ∧ Ext w (w.putObj b y) I I := by
  have hf : foot B id (.raw x) b := ⟨0, hB⟩
  obtain ⟨l0, l1⟩ := h.low id _ hid b hf
  obtain ⟨b', e1, hx, hI⟩ := h.objs id _ hid
  rw [hB] at e1; cases e1
  refine h.turn hid hf (fun k hk => ?_) hI rfl rfl rfl ?_ (fun k hk => World.putObj_heap_other hk) (fun i hi => by simp [O.ids] at hi) (fun _ => ⟨b, hB, World.putObj_heap_same l1, hI⟩)
  · obtain ⟨off, hk⟩ := hk
    rw [hB] at hk; cases hk; rfl
  · show (w.heap.setIfInBounds _ _).size = _
    simp
/-- What a hole stands for may turn as it likes. -/
theorem MR.holeTurn (h : MR w0 I0 B I mem w) {id b : Nat} (hid : mem id = some .hole) (hB : B id = .pointer (some ⟨b, 0, none⟩)) {w' : World} (h1 : w'.os = w.os) (h2 : w'.tape = w.tape) (h3 : w'.output = w.output) (h4 : w'.heap.size = w.heap.size) (h5 : ∀ k, k ≠ b → w'.heap[k]? = w.heap[k]?) : MR w0 I0 B I mem w' ∧ Ext w w' I I := by
  have hf : foot B id .hole b := ⟨0, hB⟩
  obtain ⟨b', e1, hI⟩ := h.objs id _ hid
  rw [hB] at e1; cases e1
  have := h.turn (o' := .hole) hid hf (fun k hk => by obtain ⟨off, hk⟩ := hk; rw [hB] at hk; cases hk; rfl) hI h1 h2 h3 h4 h5 (fun i hi => by simp [O.ids] at hi) (fun _ => ⟨b, hB, hI⟩)
  have e : upd mem id (some .hole) = mem := by
    funext j
    unfold upd
    split
    · rename_i e; rw [e, hid]
    · rfl
  rw [e] at this
  exact this
/-- A piece is passed over: a hole. -/
theorem MR.toHole (h : MR w0 I0 B I mem w) {id : Nat} {o : O} (hid : mem id = some o) (hb : ∃ b, B id = .pointer (some ⟨b, 0, none⟩) ∧ (∀ p, ¬ I b p) ∧ ∀ k, foot B id o k ↔ k = b) : MR w0 I0 B I (upd mem id (some .hole)) w := by
  obtain ⟨b, hB, hI, hf⟩ := hb
  exact (h.turn (o' := .hole) hid ((hf b).2 rfl) (fun k hk => by obtain ⟨off, hk⟩ := hk; rw [hB] at hk; cases hk; rfl) hI rfl rfl rfl rfl (fun _ _ => rfl) (fun i hi => by simp [O.ids] at hi) (fun _ => ⟨b, hB, hI⟩)).1
/-- What stands in a hole is held. -/
theorem MR.ofHole (h : MR w0 I0 B I mem w) {id b : Nat} {x : Obj} (hid : mem id = some .hole) (hB : B id = .pointer (some ⟨b, 0, none⟩)) (hx : w.heap[b]? = some x) : MR w0 I0 B I (upd mem id (some (.raw x))) w := by
  obtain ⟨b', e1, hI⟩ := h.objs id _ hid
  rw [hB] at e1; cases e1
  exact (h.turn (o' := .raw x) hid ⟨0, hB⟩ (fun k hk => by obtain ⟨off, hk⟩ := hk; rw [hB] at hk; cases hk; rfl) hI rfl rfl rfl rfl (fun _ _ => rfl) (fun i hi => by simp [O.ids] at hi) (fun _ => ⟨b, hB, hx, hI⟩)).1
end
end V
end Go.Proofs.Ytjciafpihdbedaa
end
section
/- A loop over an iterator, the iterator's contract asked for these facts alone: J speaks of the whole memory, the loop's record too. -/
namespace Go.Proofs.Ytjciafpihdbedaa
namespace V
open Go.RowKit
/-- The loop's record. -/
def loopRec (fn : FuncId) (tmps : Array Value) (ps : Array Tmp) (assign body : Code) (D : Nat) (st : LoopState) (pe : Option Code) : Obj :=
  .loop { state := st, pending := pe, fn, tmps, params := ps, assign, body, defers := D }
/-- The loop. L: the record; D: the block of the collected defers. -/
theorem range_any {α κ : Type} {F : Fence} {n : Nat} {P : Go.Program} {g : Operand} {ps : Array Tmp} {assign body : Code} {Q : Exit → Act → World → Prop} {a : Act} {w : World}
    (hro : F.round = none) (h1 : 1 ≤ n) {gf : Nat} {lb : Array Value} (hg : a.eval g = .func (.func gf) #[] lb) (hFg : F.fn gf) (eg : ∀ args w, (callFunc gf args).run P w = .ok (.enter gf args) w)
    {encs : α → Array Value} (hps : ∀ x, (encs x).size = ps.size)
    (J : FuncId → List α → κ → World → Prop) (Jx : FuncId → Code → List α → World → Prop) (adm : List α → α → κ → Prop) (k0 : κ) (S : List α → Prop) (Sp : List α → Prop)
    (h0 : ∀ fn, F.fn fn → J fn [] k0 ((w.alloc (.deferred (some []))).alloc (loopRec fn a.tmps ps assign body w.heap.size .ready none)))
    (hrec : ∀ fn pre k W, J fn pre k W → W.heap[w.heap.size + 1]? = some (loopRec fn a.tmps ps assign body w.heap.size .ready none))
    (hround : ∀ fn pre x k W, F.fn fn → J fn pre k W → adm pre x k →
      assign.wpIn (F.inRound (w.heap.size + 1)) (n - 1 - 1) P (Exit.then (fun a' W' => W'.heap[w.heap.size + 1]? = some (loopRec fn a.tmps ps assign body w.heap.size .ready none) ∧
        body.wpIn (F.inRound (w.heap.size + 1)) (n - 1 - 1) P (fun e _ V => V.heap[w.heap.size + 1]? = some (loopRec fn a.tmps ps assign body w.heap.size .busy none) ∧
          match e with
          | .normal => J fn (pre ++ [x]) k (V.putObj (w.heap.size + 1) (loopRec fn a.tmps ps assign body w.heap.size .ready none))
          | .ret => Jx fn .ret (pre ++ [x]) (V.putObj (w.heap.size + 1) (loopRec fn a.tmps ps assign body w.heap.size .done (some .ret)))
          | .exit id => Jx fn (.exit id) (pre ++ [x]) (V.putObj (w.heap.size + 1) (loopRec fn a.tmps ps assign body w.heap.size .done (some (.exit id))))
          | .goto t => Jx fn (.goto t) (pre ++ [x]) (V.putObj (w.heap.size + 1) (loopRec fn a.tmps ps assign body w.heap.size .done (some (.goto t))))
          | _ => False) a' (W'.putObj (w.heap.size + 1) (loopRec fn a.tmps ps assign body w.heap.size .busy none))) (fun _ _ _ => False))
        { tmps := (ps.zip (encs x)).foldl (fun t (p, v) => t.setIfInBounds p v) a.tmps, defers := [] } W)
    (hseq : ∀ fn, F.fn fn → (∀ pre x k W, J fn pre k W → adm pre x k → YieldAt F (n - 1 - 1) P (w.heap.size + 1) (encs x) W fun e W' => (e = .returned (.bool true) ∧ J fn (pre ++ [x]) k W') ∨ (e = .returned (.bool false) ∧ ∃ c, Jx fn c (pre ++ [x]) W')) →
      ∀ W, J fn [] k0 W → CallsIn F (n - 1) P gf (#[.func (.yield (w.heap.size + 1)) #[] #[]] ++ lb) W fun e W' => (∃ v, e = .returned v) ∧
        ((∃ xs k, S xs ∧ J fn xs k W') ∨ (∃ pre c, Sp pre ∧ Jx fn c pre W')))
    (hdone : ∀ fn xs k W, S xs → J fn xs k W → Q .normal { a with defers := { target := .collected w.heap.size, args := #[] } :: a.defers } (W.putObj (w.heap.size + 1) (loopRec fn a.tmps ps assign body w.heap.size .exhausted none)))
    (hstop : ∀ fn pre c W, Sp pre → Jx fn c pre W → W.heap[w.heap.size + 1]? = some (loopRec fn a.tmps ps assign body w.heap.size .done (some c)) ∧
      c.wpIn F n P Q { a with defers := { target := .collected w.heap.size, args := #[] } :: a.defers } (W.putObj (w.heap.size + 1) (loopRec fn a.tmps ps assign body w.heap.size .exhausted (some c)))) :
    (Code.rangeFunc g ps assign body).wpIn F n P Q a w := by
  refine wpIn_rangeFunc fun fn hfn => ?_
  rw [hro]
  refine ⟨w.heap.size + 1, [{ target := .collected w.heap.size, args := #[] }], _, { target := .fn (.func gf) lb, args := #[.func (.yield (w.heap.size + 1)) #[] #[]] }, _, gf,
    #[.func (.yield (w.heap.size + 1)) #[] #[]] ++ lb, _, run_enterLoop_outer _ _ _ _ _, by simp only [resolve, hg]; simp [go_sem]; rfl, ?_, by simp [invoke, go_sem, eg]; rfl, fun _ => h1, ?_⟩
  · intro f' hf'
    simp [Target.leads] at hf'
    subst hf'; exact hFg
  refine (hseq fn hfn (fun pre x k W hj hadm => ?_) _ (h0 fn hfn)).mono ?_
  · refine ⟨fn, _, assign, body, run_yield (P := P) (args := encs x) (hrec fn pre k W hj) (hps x), roundIn_of_wpIn hfn (wpIn_mono (hround fn pre x k W hfn hj hadm) ?_)⟩
    intro e a' Wa hp
    cases e with
    | normal =>
      obtain ⟨hl, hb⟩ := hp
      refine ⟨_, run_beginRound hl rfl, wpIn_mono hb ?_⟩
      rintro e a3 V ⟨hv, hq⟩
      match e, hq with
      | .normal, hq => exact ⟨_, _, run_endRound (P := P) none hv, .inl ⟨rfl, hq⟩⟩
      | .ret, hq => exact ⟨_, _, run_endRound (P := P) (some .ret) hv, .inr ⟨rfl, _, hq⟩⟩
      | .exit id, hq => exact ⟨_, _, run_endRound (P := P) (some (.exit id)) hv, .inr ⟨rfl, _, hq⟩⟩
      | .goto t, hq => exact ⟨_, _, run_endRound (P := P) (some (.goto t)) hv, .inr ⟨rfl, _, hq⟩⟩
    | _ => exact hp.elim
  · rintro e V ⟨⟨v, rfl⟩, (⟨xs, k, hS, hj⟩ | ⟨pre, c, hSp, hx⟩)⟩
    · exact ⟨none, _, run_endLoop (P := P) (hrec fn xs k V hj) (by simp), hdone fn xs k V hS hj⟩
    · obtain ⟨hl, hc⟩ := hstop fn pre c V hSp hx
      exact ⟨some c, _, run_endLoop (P := P) hl (by simp), hc⟩
end V
end Go.Proofs.Ytjciafpihdbedaa
end
section
/- classes.up's iterator, walked once more: its caller's facts are told for these cells alone. -/
set_option linter.unusedVariables false
set_option linter.unusedSimpArgs false
namespace Go.Proofs.Ytjciafpihdbedaa
namespace V
open Go.RowKit Go.Shelf
attribute [local go_sem] Oper.semAt_some
def AbidesI (b2 : Nat) (J : Nat → (Nat → Nat → Prop) → World → Prop) : Prop := ∀ k I W W' row, J k I W → W.grownBy W' row → (∀ r, row = some r → r = b2) → J k I W'
/-- A class's cells, as values. -/
theorem class_cells {w : World} {I : Nat → Nat → Prop} {a : Option Addr} {N cap : Nat} {cs : List Class} (h : RC w I (.slice a N cap) (.sl (cs.map cClass))) {j : Nat} {c : Class} (hc : cs[j]? = some c) :
    ∃ b off fv mv, a = some ⟨b, off, none⟩ ∧ RCs w I [.string c.name, .string c.super, fv, mv] (cClass c) ∧ cellsAt w b (off + j * 4) [.string c.name, .string c.super, fv, mv] := by
  cases h with
  | @sl _ _ _ e _ f hn hcp hm hl ha hr =>
    have hx : (cs.map cClass)[j]? = some (cClass c) := by simp [hc]
    have he : e = 4 := (hl _ (List.mem_of_getElem? hx)).symm
    subst he
    obtain ⟨b, off, ea, hcell⟩ := ha j _ hx
    have h0 := RC.toStr (hr j 0 _ _ hx rfl)
    have h1 := RC.toStr (hr j 1 _ _ hx rfl)
    have r0 := hr j 0 _ _ hx rfl
    have r1 := hr j 1 _ _ hx rfl
    have r2 := hr j 2 _ _ hx rfl
    have r3 := hr j 3 _ _ hx rfl
    rw [h0.1] at r0
    rw [h1.1] at r1
    refine ⟨b, off, f j 2, f j 3, ea, ⟨r0, r1, r2, r3, trivial⟩, ?_, ?_, ?_, ?_, trivial⟩
    · have := (hcell 0 (by decide)).2; rw [h0.1] at this; exact this
    · have := (hcell 1 (by decide)).2; rw [h1.1] at this; exact this
    · exact (hcell 2 (by decide)).2
    · exact (hcell 3 (by decide)).2
set_option maxRecDepth 100000 in
set_option maxHeartbeats 4000000 in
theorem up1_v (n : Nat) (hn : 1 ≤ n) (l b1 b2 : Nat) (cv mv : Value) (cs : List Class) (name : ByteArray) (hlen : cs.length ≤ 1000000000) (J : Nat → (Nat → Nat → Prop) → World → Prop) (Jx : World → Prop)
    (hJ : AbidesI b2 J) (h12 : b1 ≠ b2)
    (hJR : ∀ k I W, J k I W → (∀ b o, I b o → b < W.heap.size) ∧ RC W I cv (.sl (cs.map cClass)) ∧ W.heap[b1]? = some (.cells #[cv, mv] 25))
    (hY : ∀ k I W j c vs, J k I W → (upX cs (cs.length + 1) 0 name)[k]? = some (k, j) → cs[j]? = some c → RCs W I vs (cClass c) → YieldAt Fence.wide (n - 1) Try.prog l #[.int .i64 (k : Int), .agg vs.toArray] W fun e W' =>
      (e = .returned (.bool true) ∧ (∃ I', J (k + 1) I' W') ∧ W'.heap[b2]? = W.heap[b2]?) ∨ (e = .returned (.bool false) ∧ Jx W'))
    (W : World) (I0 : Nat → Nat → Prop) (hb2 : W.heap[b2]? = some (.cells #[.string name] 9)) (h0 : J 0 I0 W) :
    CallsIn Fence.wide n Try.prog 57 #[.func (.yield l) #[] #[], .pointer (some ⟨b1, 0, none⟩), .pointer (some ⟨b2, 0, none⟩)] W fun e W' => (∃ v, e = .returned v) ∧
      ((∃ I, J (upX cs (cs.length + 1) 0 name).length I W') ∨ Jx W') := by
  obtain ⟨hIW, hRW, hb1⟩ := hJR _ _ _ h0
  obtain ⟨d, hRC⟩ := rc_classes (w := W) (I := I0) hIW (v := cv) (l := cs)
  obtain ⟨a, N, cap, rfl, hN, -, -, -⟩ := hRC hRW
  have HN := Lib.hid hN
  have HY := Lib.hid hY
  have HJ := Lib.hid hJ
  have HJR := Lib.hid hJR
  have HB1 := Lib.hid hb1
  have HB2 := Lib.hid hb2
  have hNl : N ≤ 1000000000 := by omega
  have c1 : W.cell? ⟨b1, 0, none⟩ = some (.slice a N cap) := by simp [World.cell?, hb1]
  clear hN hY hJ hJR hb1 hb2 hRC hIW hRW
  refine callsIn_of_wp Try.func57 rfl trivial ?_ rfl
  simp only [Try.ntmps57, List.size_toArray, List.length_cons, List.length_nil, Nat.reduceAdd, Nat.reduceSub, Array.replicate_succ, Array.replicate_zero, List.push_toArray, List.append_toArray, List.nil_append, List.cons_append]
  gi_wp2
  gi_loopw [10] (fun v10 wr => ∃ (m : Nat) (I : Nat → Nat → Prop) (cur : ByteArray), m ≤ N + 1 ∧ v10 = .int .i64 m ∧ Hid (∃ pre : List (Nat × Nat), pre.length = m ∧ upX cs (cs.length + 1) 0 name = pre ++ upX cs (N + 1 - m) m cur) ∧ Hid (J m I wr) ∧ Hid (wr.heap[b2]? = some (.cells #[.string cur] 9))) (fun v10 _ => N + 1 - (intOf v10).toNat)
  case atStart => exact ⟨0, I0, name, by omega, rfl, ⟨[], rfl, by rw [HN.out]; rfl⟩, h0, HB2.out⟩
  case round =>
    obtain ⟨m, I, cur, hm, rfl, HPX, HJP, HC2⟩ := hrel
    have HC1 := Lib.hid (HJR.out _ _ _ HJP.out).2.2
    have d1 : wr.cell? ⟨b1, 0, none⟩ = some (.slice a N cap) := by simp [World.cell?, HC1.out]
    have d2 : wr.cell? ⟨b2, 0, none⟩ = some (.string cur) := by simp [World.cell?, HC2.out]
    have d3 : wr.frozen? ⟨b2, 0, none⟩ = false := by simp [World.frozen?, HC2.out]
    by_cases hmN : m < N + 1
    · have HRW : Hid (∃ d, RClasses d wr (· < wr.heap.size) (.slice a N cap) cs) := let ⟨d, h⟩ := rc_classes (w := wr) (I := I) (HJR.out _ _ _ HJP.out).1 (v := .slice a N cap) (l := cs); ⟨d, h (HJR.out _ _ _ HJP.out).2.1⟩
      obtain ⟨d', HRW⟩ := HRW
      have HRW := Lib.hid HRW
      gi_wp2_with fail
      refine ⟨trivial, (callsIn_wide.2 (indexNamed d' (.slice a N cap) cs cur b2 wr HRW.out d2)).mono ?_⟩
      rintro e w2 ⟨rfl, hb⟩
      have hl1 : b1 < wr.heap.size := (Array.getElem?_eq_some_iff.1 HC1.out).1
      have hl2 : b2 < wr.heap.size := (Array.getElem?_eq_some_iff.1 HC2.out).1
      have HD1 : Hid (w2.heap[b1]? = some (.cells #[.slice a N cap, mv] 25)) := (hb.block b1 hl1).trans HC1.out
      have HD2 : Hid (w2.heap[b2]? = some (.cells #[.string cur] 9)) := (hb.block b2 hl2).trans HC2.out
      have HJ2 : Hid (J m I w2) := HJ.out m I wr w2 none HJP.out ⟨hb.os, hb.tape, hb.output, hb.size, fun k hk _ => hb.block k hk⟩ (fun r e => by cases e)
      have e1 : w2.cell? ⟨b1, 0, none⟩ = some (.slice a N cap) := by simp [World.cell?, HD1.out]
      have e2 : w2.cell? ⟨b2, 0, none⟩ = some (.string cur) := by simp [World.cell?, HD2.out]
      have hk : N + 1 - m = (N - m) + 1 := by omega
      rw [hk] at HPX
      clear d1 d2 d3 hb HC1 HC2 HJP HRW hk
      by_cases hi : 0 ≤ idxB (namedB cur) cs
      · obtain ⟨c, hc, hnm⟩ := idxB_spec _ _ hi
        obtain ⟨j, hj⟩ : ∃ j : Nat, idxB (namedB cur) cs = j := ⟨(idxB (namedB cur) cs).toNat, by omega⟩
        have hfj : findJ cs cur = some j := by unfold findJ; rw [if_pos hi, hj]; simp
        rw [hj, Int.toNat_natCast] at hc
        have hjN : j < N := by rw [← HN.out]; exact (List.getElem?_eq_some_iff.1 hc).1
        have hsup : superOf cs j = c.super := by unfold superOf; rw [hc]; rfl
        obtain ⟨a', off, fv, mv', ea, HRCS, hcl⟩ := class_cells (HJR.out _ _ _ HJ2.out).2.1 hc
        have HEA := Lib.hid ea
        have HRCS := Lib.hid HRCS
        subst ea
        have HX : Hid ((upX cs (cs.length + 1) 0 name)[m]? = some (m, j) ∧ ∃ pre : List (Nat × Nat), pre.length = m + 1 ∧ upX cs (cs.length + 1) 0 name = pre ++ upX cs (N + 1 - (m + 1)) (m + 1) c.super) := by
          show _ ∧ _
          obtain ⟨pre, hp1, hp2⟩ := HPX.out
          have e3 : N + 1 - (m + 1) = N - m := by omega
          rw [hp2, e3]
          conv => lhs; rw [upX]
          conv => rhs; rw [upX]
          rw [hfj]
          subst hp1
          refine ⟨by simp, pre ++ [(pre.length, j)], by simp, by simp [hsup]⟩
        obtain ⟨fn, tmps, assign, body, hy, hR⟩ := HY.out m I w2 j c _ HJ2.out HX.out.1 hc HRCS.out
        obtain ⟨f0, f1, f2, f3, -⟩ := hcl
        rw [hj]
        have HCJ := Lib.hid hc
        clear hnm hi hfj hsup
        gi_wp2
        refine hR.mono ?_
        rintro e W3 (⟨rfl, ⟨I3, hJ3⟩, hk3⟩ | ⟨rfl, hJx3⟩)
        · obtain ⟨a3, off3, fv3, mv3, ea3, -, hcl3⟩ := class_cells (HJR.out _ _ _ hJ3).2.1 HCJ.out
          simp only [Option.some.injEq, Addr.mk.injEq, and_true] at ea3
          obtain ⟨rfl, rfl⟩ := ea3
          have HE1 := Lib.hid (HJR.out _ _ _ hJ3).2.2
          have HE2 : Hid (W3.heap[b2]? = some (.cells #[.string cur] 9)) := hk3.trans HD2.out
          have g1 : W3.cell? ⟨b1, 0, none⟩ = some (.slice (some ⟨a', off, none⟩) N cap) := by simp [World.cell?, HE1.out]
          have g2 : W3.cell? ⟨b2, 0, none⟩ = some (.string cur) := by simp [World.cell?, HE2.out]
          have g3 : W3.frozen? ⟨b2, 0, none⟩ = false := by simp [World.frozen?, HE2.out]
          have g4 := hcl3.2.1
          have HJ3 : Hid (J (m + 1) I3 (W3.setCell ⟨b2, 0, none⟩ (.string c.super))) := HJ.out _ _ W3 _ (some b2) hJ3 ⟨rfl, rfl, rfl, by show _ ≤ (W3.heap.modify _ _).size; rw [Array.size_modify]; exact Nat.le_refl _, fun q _ hne => Below.heap_setCell W3 _ _ q (fun e => hne (by rw [e]))⟩ (fun r e => by cases e; rfl)
          have HF2 : Hid ((W3.setCell ⟨b2, 0, none⟩ (.string c.super)).heap[b2]? = some (.cells #[.string c.super] 9)) := by
            show (W3.heap.modify b2 _)[b2]? = _
            rw [Array.getElem?_modify, if_pos rfl, HE2.out]; rfl
          clear hk3 hJ3 HE1 HE2 hcl3
          gi_wp2
          go_roundw
          case rel => exact ⟨m + 1, I3, c.super, by omega, by go_num, HX.out.2, HJ3, HF2⟩
          case measure => simp [intOf]; omega
        · gi_wp2
          refine bodyPost_ret (results_none rfl _ _ _) rfl ?_
          exact ⟨⟨_, rfl⟩, .inr hJx3⟩
      · have hi2 : idxB (namedB cur) cs < 0 := by omega
        have HX : Hid ((upX cs (cs.length + 1) 0 name).length = m) := by
          show _ = _
          obtain ⟨pre, hp1, hp2⟩ := HPX.out
          rw [hp2]
          conv => lhs; rw [upX]
          unfold findJ
          rw [if_neg hi]; simp [hp1]
        generalize idxB (namedB cur) cs = i at *
        clear hi
        gi_wp2
        refine ⟨fun _ h => (by cases h), ?_⟩
        gi_wp2
        refine bodyPost_ret (results_none rfl _ _ _) rfl ?_
        exact ⟨⟨_, rfl⟩, .inl ⟨I, by rw [HX.out]; exact HJ2.out⟩⟩
    · obtain rfl : m = N + 1 := by omega
      have HX : Hid ((upX cs (cs.length + 1) 0 name).length = N + 1) := by
        show _ = _
        obtain ⟨pre, hp1, hp2⟩ := HPX.out
        have e3 : N + 1 - (N + 1) = 0 := by omega
        rw [hp2, e3, upX, List.append_nil, hp1]
      gi_wp2
      go_end0
      exact ⟨⟨_, rfl⟩, .inl ⟨I, by rw [HX.out]; exact HJP.out⟩⟩
end V
end Go.Proofs.Ytjciafpihdbedaa
end
